/- Slices: cut, appended to, made. -/
import Derived.Test.YthihjipdkhmgkaaAbsFarL
import Derived.Test.YthihjipdkhmgkaaAbsOps4L
import Derived.Laws.MakeOwn
set_option linter.unusedVariables false
set_option linter.unusedSimpArgs false
namespace Go.Abs
open Go.RowKit

section
variable {P : Program} {w0 : World} {fp : FP} {nt : Nat} {β : Nat → Value} {st : St} {a : Act} {w : World} {T : Tab} {o : Oper} {Q : Exit → Act → World → Prop}

theorem run_sliceBound {k : IntKind} {i : Int} {y : Nat} {code : BoundsCode} (h : 0 ≤ i ∧ i ≤ (y : Int)) : (Instr.sliceBound (.int k i) y code).run P w = .ok i.toNat w := by
  simp [Instr.sliceBound, asIntOf_int, h]

/-- what the two bounds of a slice expression come to -/
def BoundOk (a : Act) (x : Option Operand) (v : Option (Int × Option Int)) : Prop :=
  match x, v with
  | none, none => True
  | some p, some (n, _) => ∃ k, a.eval p = .int k n
  | _, _ => False

theorem natOpt_rel (R : Rel P w0 fp nt β st a w) {x : Option Operand} {v : Option (Int × Option Int)} (e : natOpt x st = some v) : BoundOk a x v := by
  cases x with
  | none => cases e; trivial
  | some p =>
    simp only [natOpt] at e
    split at e
    · rename_i k n h
      cases e
      have := opd_rel R h
      exact ⟨k, this⟩
    · cases e

theorem run_sliceBounds {isS : Bool} {len cap : Nat} {lo hi : Option Operand} {l h : Option (Int × Option Int)} (hl : BoundOk a lo l) (hh : BoundOk a hi h) {L H : Nat}
    (eH : (match h with | none => H = len | some (b, _) => 0 ≤ b ∧ b ≤ (cap : Int) ∧ H = b.toNat)) (eL : (match l with | none => L = 0 | some (b, _) => 0 ≤ b ∧ b ≤ (H : Int) ∧ L = b.toNat)) :
    (Instr.sliceBounds isS len cap (lo.map a.eval) (hi.map a.eval) none).run P w = .ok (L, H, cap) w := by
  unfold Instr.sliceBounds
  cases lo <;> cases l <;> cases hi <;> cases h <;> simp only [BoundOk] at hl hh <;> simp only [] at eH eL
  · subst eH eL; simp
  · rename_i p q
    obtain ⟨b, bc⟩ := q
    obtain ⟨k, hk⟩ := hh
    obtain ⟨h1, h2, rfl⟩ := eH
    subst eL
    simp [hk, run_sliceBound (P := P) (w := w) (k := k) ⟨h1, h2⟩]
  · rename_i p q
    obtain ⟨b, bc⟩ := q
    obtain ⟨k, hk⟩ := hl
    obtain ⟨h1, h2, rfl⟩ := eL
    subst eH
    simp [hk, run_sliceBound (P := P) (w := w) (k := k) ⟨h1, h2⟩]
  · rename_i p q p' q'
    obtain ⟨b, bc⟩ := q
    obtain ⟨b', bc'⟩ := q'
    obtain ⟨k, hk⟩ := hl
    obtain ⟨k', hk'⟩ := hh
    obtain ⟨h1, h2, rfl⟩ := eL
    obtain ⟨h3, h4, rfl⟩ := eH
    simp [hk, hk', run_sliceBound (P := P) (w := w) (k := k') ⟨h3, h4⟩, run_sliceBound (P := P) (w := w) (k := k) ⟨h1, h2⟩]

theorem run_sliceAt_slice {t el : Nat} {ti : TypeInfo} (hu : P.underlying t = some (.slice el)) (hi : P.info? el = some ti) {A : Option Addr} {len cap L H : Nat} {lo hi' : Option Value}
    (hb : (Instr.sliceBounds true len cap lo hi' none).run P w = .ok (L, H, cap) w) :
    (Instr.sliceAt t (.slice A len cap) lo hi' none).run P w = .ok (.slice (if cap = L then A else A.map (·.add (L * ti.size))) (H - L) (cap - L)) w := by
  simp [Instr.sliceAt, Instr.slice, run_underlying hu, hb, run_sizeOf hi]

theorem run_sliceAt_array {t n el : Nat} {ti : TypeInfo} (hu : P.underlying t = some (.array n el)) (hi : P.info? el = some ti) {A : Addr} {L H : Nat} {lo hi' : Option Value}
    (hb : (Instr.sliceBounds false n n lo hi' none).run P w = .ok (L, H, n) w) :
    (Instr.sliceAt t (.pointer (some A)) lo hi' none).run P w = .ok (.slice (some (if n = L then A else A.add (L * ti.size))) (H - L) (n - L)) w := by
  simp [Instr.sliceAt, Instr.sureAddr, run_underlying hu, hb, run_sizeOf hi]

theorem FzV.cut {own : Nat → Prop} {t : DT} {xs : List t.T} {n : Option Nat} {A : Option Addr} {len c L m : Nat} (h : FzV w own (.fz t xs n) (.slice A len c)) (hL : L ≤ xs.length) (m' : Option Nat) (hm : lenOfFz (xs.drop L) m' = m) (hml : m ≤ xs.length - L) :
    FzV w own (.fz t (xs.drop L) m') (.slice (if c = L then A else A.map (·.add (L * t.size))) m (c - L)) := by
  cases h with
  | fz _ _ _ _ _ hn hc h0 hat =>
    subst hm
    refine .fz t (xs.drop L) m' _ _ (by rw [List.length_drop]; exact hml) (by rw [List.length_drop]; omega) ?_ ?_
    · intro hA
      split at hA
      · subst hA
        obtain ⟨rfl, rfl⟩ := h0 rfl
        simp
      · cases A with
        | none =>
          obtain ⟨rfl, rfl⟩ := h0 rfl
          simp
        | some A => cases hA
    · intro a' ha' i hi
      rw [List.length_drop] at hi
      split at ha'
      · omega
      · cases A with
        | none => cases ha'
        | some A =>
          cases ha'
          rw [add_add, ← Nat.add_mul, List.getElem_drop]
          exact hat A rfl (L + i) (by omega)

theorem slice_rel (hT : TabOk P T) (R : Rel P w0 fp nt β st a w) {t : Nat} {x : AV} {u : Value} (hx : AVRel st.heap β w x u) {lo hi : Option Operand} {l h : Option (Int × Option Int)} (hl : BoundOk a lo l) (hh : BoundOk a hi h)
    {rq : Option Req} {δ : Delta} (e : sliceAV T st.heap t x l h = some (rq, δ)) (hr : ∀ r, rq = some r → r.p) :
    δ.hw = [] ∧ ∃ v, (Instr.sliceAt t u (lo.map a.eval) (hi.map a.eval) none).run P w = .ok v w ∧ AVRel st.heap β w δ.av v := by
  unfold sliceAV at e
  split at e
  · rename_i N el sz by' z h1
    have hu := tdArray (hT _ _ h1)
    cases h2 : T.get el with
    | none => rw [h2] at e; cases x <;> simp only [] at e <;> cases e
    | some te =>
      rw [h2] at e
      obtain ⟨ii, hi', hsz, _⟩ := (hT _ _ h2).info
      split at e
      · rename_i te' r base room heq
        cases heq
        cases hb : (Nat.ble N room && Nat.beq te.size 1 && cellsB st.heap r) <;> simp only [hb, cond_true, cond_false] at e
        · cases e
        simp only [Bool.and_eq_true] at hb
        have hb1 := nble.1 hb.1.1
        have hb2 := nbeq.1 hb.1.2
        obtain ⟨segs, hs⟩ := cellsB_rel hb.2
        obtain ⟨g', hg', hp⟩ := hx
        rw [hs] at hg'
        cases hg'
        obtain ⟨b, hbv, rfl, hsize, _⟩ := hp
        simp only [offOf, Nat.add_zero] at hsize ⊢
        have fin : ∀ L H, L ≤ H → H ≤ N → (Instr.sliceBounds false N N (lo.map a.eval) (hi.map a.eval) none).run P w = .ok (L, H, N) w →
            ∃ v, (Instr.sliceAt t (.pointer (some ⟨b, base, none⟩)) (lo.map a.eval) (hi.map a.eval) none).run P w = .ok v w ∧ AVRel st.heap β w (.c (.asl r base L (H - L) N)) v := by
          intro L H hLH hHN hbd
          refine ⟨_, run_sliceAt_array hu hi' hbd, _, hs, b, hbv, by omega, by omega, ?_⟩
          rw [hsz, hb2, Nat.mul_one, add_lit]
        split at e
        · cases e; exact ⟨rfl, fin 0 N (by omega) (by omega) (run_sliceBounds hl hh rfl rfl)⟩
        · cases e
          have hin := hr _ rfl
          simp only [req] at hin
          exact ⟨rfl, fin 0 _ (by omega) (by omega) (run_sliceBounds hl hh ⟨hin.1, hin.2, rfl⟩ rfl)⟩
        · cases e
          have hin := hr _ rfl
          simp only [req] at hin
          exact ⟨rfl, fin _ N (by omega) (by omega) (run_sliceBounds hl hh rfl ⟨hin.1, hin.2, rfl⟩)⟩
        · cases e
          have hin := hr _ rfl
          simp only [req] at hin
          exact ⟨rfl, fin _ _ (by omega) (by omega) (run_sliceBounds hl hh ⟨by omega, hin.2.2, rfl⟩ ⟨hin.1, by omega, rfl⟩)⟩
      · cases e
  · rename_i el sz by' z h1
    have hu := tdSlice (hT _ _ h1)
    split at e
    · rename_i r
      cases hg : st.heap r with
      | none => rw [hg] at e; cases e
      | some g =>
        rw [hg] at e
        cases g <;> simp only [] at e <;> try (cases e; done)
        rename_i e' k' xs
        cases h2 : T.get el with
        | none => rw [h2] at e; cases e
        | some te =>
        rw [h2] at e
        obtain ⟨ii, hi', hsz, _⟩ := (hT _ _ h2).info
        simp only [] at e
        cases hb2 : Nat.beq te.size 1 <;> simp only [hb2, cond_true, cond_false] at e
        · cases e
        have hb2 := nbeq.1 hb2
        obtain ⟨g', hg', hp⟩ := hx
        rw [hg] at hg'
        cases hg'
        obtain ⟨rfl, hone⟩ := hp
        obtain ⟨A, cap, hbv, hcap⟩ : ∃ A cap, β r = .slice A xs.length cap ∧ xs.length ≤ cap := by
          rcases R.heap r _ hg with ⟨hn, rfl⟩ | ⟨b, cap, tail, hbv, hh, hc, hm⟩
          · exact ⟨none, 0, hn, by simp⟩
          · exact ⟨_, cap, hbv, by omega⟩
        rw [hbv] at hone ⊢
        have fin : ∀ L H, L ≤ H → H ≤ xs.length → (Instr.sliceBounds true xs.length cap (lo.map a.eval) (hi.map a.eval) none).run P w = .ok (L, H, cap) w →
            ∃ v, (Instr.sliceAt t (.slice A xs.length cap) (lo.map a.eval) (hi.map a.eval) none).run P w = .ok v w ∧ AVRel st.heap β w (.c (.sl r L (H - L))) v := by
          intro L H hLH hHN hbd
          refine ⟨_, run_sliceAt_slice hu hi' hbd, _, hg, by omega, A, cap, _, hbv, rfl, fun hlt => ?_⟩
          rw [hsz, hb2, Nat.mul_one, if_neg (by omega)]
        split at e
        · cases e
          refine ⟨rfl, _, run_sliceAt_slice hu hi' (run_sliceBounds hl hh rfl rfl), _, hg, ?_, rfl⟩
          rw [hbv]
          cases A <;> simp [add_zero']
        · cases e
          have hin := hr _ rfl
          simp only [req] at hin
          exact ⟨rfl, fin 0 _ (by omega) (by omega) (run_sliceBounds hl hh ⟨hin.1, by omega, rfl⟩ rfl)⟩
        · cases e
          have hin := hr _ rfl
          simp only [req] at hin
          exact ⟨rfl, fin _ _ (by omega) (by omega) (run_sliceBounds hl hh rfl ⟨hin.1, hin.2, rfl⟩)⟩
        · cases e
          have hin := hr _ rfl
          simp only [req] at hin
          exact ⟨rfl, fin _ _ (by omega) (by omega) (run_sliceBounds hl hh ⟨by omega, by omega, rfl⟩ ⟨hin.1, by omega, rfl⟩)⟩
    · rename_i r p n
      cases hg : st.heap r with
      | none => rw [hg] at e; cases e
      | some g =>
        rw [hg] at e
        cases g <;> simp only [] at e <;> try (cases e; done)
        rename_i e' k' xs
        cases h2 : T.get el with
        | none => rw [h2] at e; cases e
        | some te =>
        rw [h2] at e
        obtain ⟨ii, hi', hsz, _⟩ := (hT _ _ h2).info
        simp only [] at e
        cases hb2 : Nat.beq te.size 1 <;> simp only [hb2, cond_true, cond_false] at e
        · cases e
        have hb2 := nbeq.1 hb2
        obtain ⟨g', hg', hp⟩ := hx
        rw [hg] at hg'
        cases hg'
        obtain ⟨hpn, A, cap, A', hbv, rfl, hA⟩ := hp
        have hcap : xs.length ≤ cap := by
          rcases R.heap r _ hg with ⟨hn, rfl⟩ | ⟨b, cap', tail, hbv', hh, hc, hm⟩
          · simp
          · rw [hbv'] at hbv; cases hbv; omega
        have fin : ∀ L H, L ≤ H → p + H ≤ xs.length → (Instr.sliceBounds true n (cap - p) (lo.map a.eval) (hi.map a.eval) none).run P w = .ok (L, H, cap - p) w →
            ∃ v, (Instr.sliceAt t (.slice A' n (cap - p)) (lo.map a.eval) (hi.map a.eval) none).run P w = .ok v w ∧ AVRel st.heap β w (.c (.sl r (p + L) (H - L))) v := by
          intro L H hLH hHN hbd
          refine ⟨_, run_sliceAt_slice hu hi' hbd, _, hg, by omega, A, cap, _, hbv, by rw [Nat.sub_sub], fun hlt => ?_⟩
          rw [hsz, hb2, Nat.mul_one, if_neg (by omega), hA (by omega)]
          cases A <;> simp [add_add]
        split at e
        · cases e
          have hin := hr _ rfl
          simp only [req] at hin
          exact ⟨rfl, fin 0 _ (by omega) (by omega) (run_sliceBounds hl hh ⟨hin.1, by omega, rfl⟩ rfl)⟩
        · cases e
          have hin := hr _ rfl
          simp only [req] at hin
          exact ⟨rfl, fin _ n (by omega) (by omega) (run_sliceBounds hl hh rfl ⟨hin.1, hin.2, rfl⟩)⟩
        · cases e
          have hin := hr _ rfl
          simp only [req] at hin
          exact ⟨rfl, fin _ _ (by omega) (by omega) (run_sliceBounds hl hh ⟨by omega, by omega, rfl⟩ ⟨hin.1, by omega, rfl⟩)⟩
        · cases e
    · rename_i d xs n
      cases h2 : T.get el with
      | none => rw [h2] at e; cases e
      | some te =>
      rw [h2] at e
      obtain ⟨ii, hi', hsz, _⟩ := (hT _ _ h2).info
      simp only [] at e
      cases hb2 : Nat.beq te.size d.size <;> simp only [hb2, cond_true, cond_false] at e
      · cases e
      have hb2 := nbeq.1 hb2
      simp only [AVRel, CVRel] at hx
      have hx0 := hx
      cases hx with
      | fz _ _ _ A c hn hc h0 hat =>
      have fin : ∀ L H m', L ≤ H → H ≤ xs.length → lenOfFz (xs.drop L) m' = H - L → (Instr.sliceBounds true (lenOfFz xs n) c (lo.map a.eval) (hi.map a.eval) none).run P w = .ok (L, H, c) w →
          ∃ v, (Instr.sliceAt t (.slice A (lenOfFz xs n) c) (lo.map a.eval) (hi.map a.eval) none).run P w = .ok v w ∧ AVRel st.heap β w (.c (.fz d (xs.drop L) m')) v := by
        intro L H m' hLH hHN hm hbd
        refine ⟨_, run_sliceAt_slice hu hi' hbd, ?_⟩
        simp only [AVRel, CVRel]
        have := hx0.cut (L := L) (by omega) m' hm (by omega)
        rwa [← hb2, ← hsz] at this
      split at e
      · cases e
        refine ⟨rfl, _, run_sliceAt_slice hu hi' (run_sliceBounds hl hh rfl rfl), ?_⟩
        simp only [AVRel, CVRel]
        have h00 : (if c = 0 then A else A.map (·.add (0 * ii.size))) = A := by
          split
          · rfl
          · cases A <;> simp [add_zero']
        rw [h00]
        exact hx0
      · cases e
        have hin := hr _ rfl
        simp only [req] at hin
        rename_i b _
        have := fin 0 b.toNat (some b.toNat) (by omega) (by omega) (by simp [lenOfFz]) (run_sliceBounds hl hh ⟨hin.1, by omega, rfl⟩ rfl)
        exact ⟨rfl, by simpa using this⟩
      · cases e
        have hin := hr _ rfl
        simp only [req] at hin
        refine ⟨rfl, fin _ (lenOfFz xs n) _ (by omega) hn ?_ (run_sliceBounds hl hh rfl ⟨hin.1, hin.2, rfl⟩)⟩
        cases n <;> simp [lenOfFz]
      · cases e
        have hin := hr _ rfl
        simp only [req] at hin
        exact ⟨rfl, fin _ _ _ (by omega) (by omega) (by simp [lenOfFz]) (run_sliceBounds hl hh ⟨by omega, by omega, rfl⟩ ⟨hin.1, by omega, rfl⟩)⟩
    · cases e
  · cases e

theorem fz_ints {own : Nat → Prop} {k : IntKind} (xs : List Int) (n : Option Nat) {v : Value} (H : FzV w own (.fz (.int k) xs n) v) :
    ∃ A c, v = .slice A (lenOfFz xs n) c ∧ lenOfFz xs n ≤ xs.length ∧ (A = none → xs = []) ∧ ∀ a, A = some a → ∀ j x, xs[j]? = some x → w.cell? (a.add j) = some (.int k x) := by
  cases H with
  | fz _ _ _ A c hn hc h0 hat =>
    refine ⟨A, c, rfl, hn, fun h => (h0 h).1, fun a ha j x hx => ?_⟩
    have hj : j < xs.length := (List.getElem?_eq_some_iff.1 hx).1
    have := hat a ha j hj
    simp only [encD, DT.size, Nat.mul_one] at this
    cases this with
    | one c cs a v' hc' ho' hv'' hr' =>
      cases hv''
      rw [hc']
      congr 2
      exact (List.getElem?_eq_some_iff.1 hx).2

theorem fz_slice {own : Nat → Prop} {k : IntKind} {xs : List Int} {n : Option Nat} {v : Value} (H : FzV w own (.fz (.int k) xs n) v) :
    ∃ A c, v = .slice A (takeO xs n).length c ∧ (A = none → takeO xs n = []) ∧ ∀ A', A = some A' → ∀ j v, (intsV k (takeO xs n))[j]? = some v → w.cell? (A'.add j) = some v := by
  obtain ⟨A, c, rfl, hn, h0, hat⟩ := fz_ints xs n H
  have hlen : (takeO xs n).length = lenOfFz xs n := by
    cases n with
    | none => rfl
    | some m =>
      simp only [takeO, lenOfFz] at hn ⊢
      rw [List.length_take]
      exact Nat.min_eq_left hn
  refine ⟨A, c, by rw [hlen], fun h => ?_, fun A' h j v hv => ?_⟩
  · have := h0 h
    subst this
    cases n <;> simp [takeO]
  · simp only [intsV, List.getElem?_map] at hv
    cases hx : (takeO xs n)[j]? with
    | none => rw [hx] at hv; cases hv
    | some x =>
      rw [hx] at hv
      simp only [Option.map_some, Option.some.injEq] at hv
      rw [← hv]
      refine hat A' h j x ?_
      cases n with
      | none => exact hx
      | some m =>
        simp only [takeO, List.getElem?_take] at hx
        split at hx
        · exact hx
        · cases hx

/-- the numbers of a slice -/
theorem sliceInts_rel (R : Rel P w0 fp nt β st a w) {x : AV} {u : Value} (hx : AVRel st.heap β w x u) {k : IntKind} {ys : List Int} {rs : List Nat} (e : sliceInts st.heap x = some (k, ys, rs)) :
    ∃ A c, u = .slice A ys.length c ∧ (A = none → ys = []) ∧ ∀ A', A = some A' → ∀ j v, (intsV k ys)[j]? = some v → w.cell? (A'.add j) = some v := by
  unfold sliceInts at e
  split at e
  · rename_i r
    cases hg : st.heap r with
    | none => rw [hg] at e; cases e
    | some g =>
      rw [hg] at e
      cases g <;> simp only [] at e <;> try (cases e; done)
      cases e
      obtain ⟨g', hg', hp⟩ := hx
      rw [hg] at hg'
      cases hg'
      obtain ⟨rfl, _⟩ := hp
      rcases R.heap r _ hg with ⟨hn, rfl⟩ | ⟨b, cap, tail, hbv, hh, hc, hm⟩
      · exact ⟨none, 0, hn, fun _ => rfl, fun A' h => by cases h⟩
      · refine ⟨_, cap, hbv, (fun h => by cases h), fun A' h j v hv => ?_⟩
        cases h
        refine win_block hh j v ?_
        rw [List.getElem?_append_left (by
          rcases Nat.lt_or_ge j (intsV k ys).length with h | h
          · exact h
          · rw [List.getElem?_eq_none h] at hv; cases hv)]
        exact hv
  · rename_i r p n
    cases hg : st.heap r with
    | none => rw [hg] at e; cases e
    | some g =>
      rw [hg] at e
      cases g <;> simp only [] at e <;> try (cases e; done)
      rename_i e' k' xs
      cases e
      obtain ⟨g', hg', hp⟩ := hx
      rw [hg] at hg'
      cases hg'
      obtain ⟨hlen, A, cap, A', hbv, rfl, hA⟩ := hp
      have hl : ((xs.drop p).take n).length = n := by simp; omega
      rw [hl]
      refine ⟨A', _, rfl, fun h => ?_, fun A'' h j v hv => ?_⟩
      · rcases Nat.lt_or_ge p cap with h' | h'
        · have := hA h'
          subst this
          rcases R.heap r _ hg with ⟨hn, rfl⟩ | ⟨b, cap', tail, hbv', hh, hc, hm⟩
          · simp
          · rw [hbv'] at hbv; cases hbv; simp at h
        · rcases R.heap r _ hg with ⟨hn, rfl⟩ | ⟨b, cap', tail, hbv', hh, hc, hm⟩
          · simp
          · rw [hbv'] at hbv; cases hbv
            have : n = 0 := by omega
            subst this; simp
      · have hj : j < n := by
          rcases Nat.lt_or_ge j n with h' | h'
          · exact h'
          · rw [List.getElem?_eq_none (by simp; omega)] at hv; cases hv
        rcases R.heap r _ hg with ⟨hn, rfl⟩ | ⟨b, cap', tail, hbv', hh, hc, hm⟩
        · simp at hlen; omega
        · rw [hbv'] at hbv
          cases hbv
          have := hA (by omega)
          subst this
          simp only [Option.map_some, Option.some.injEq] at h
          subst h
          rw [add_add]
          refine win_block hh (p + j) v ?_
          simp only []
          rw [List.getElem?_append_left (by simp; omega)]
          simp only [intsV, List.getElem?_map, List.getElem?_take, hj, if_true, List.getElem?_drop] at hv ⊢
          exact hv
  · rename_i r base lo n lim
    cases hg : st.heap r with
    | none => rw [hg] at e; cases e
    | some g =>
      rw [hg] at e
      cases g <;> simp only [] at e <;> try (cases e; done)
      rename_i segs
      cases hd : dropSegs segs base with
      | none => rw [hd] at e; cases e
      | some rest =>
        rw [hd] at e
        cases rest with
        | nil => cases e
        | cons c cs =>
          cases c <;> simp only [] at e <;> try (cases e; done)
          rename_i k' m f
          cases hb : Nat.ble lim m <;> simp only [hb, cond_true, cond_false] at e
          · cases e
          have hm := nble.1 hb
          cases e
          obtain ⟨g', hg', hp⟩ := hx
          rw [hg] at hg'
          cases hg'
          obtain ⟨b, hbv, hlo, hlim, rfl⟩ := hp
          obtain ⟨b', TT, cs', hbv', hh, hs⟩ := R.heap r _ hg
          obtain rfl : b' = b := by rw [hbv] at hbv'; simpa using hbv'.symm
          obtain ⟨h1, h2⟩ := dropSegs_rel hs hd
          obtain ⟨r', hr', _⟩ := h2
          refine ⟨_, lim - lo, by simp; rfl, (fun h => by cases h), fun A' h j v hv => ?_⟩
          have hj : j < n := by
            rcases Nat.lt_or_ge j n with h' | h'
            · exact h'
            · rw [List.getElem?_eq_none (by simp; omega)] at hv; cases hv
          rw [if_neg (by omega)] at h
          cases h
          rw [add_lit, Nat.add_assoc]
          have hw := (win_block hh).drop base
          have := hw (lo + j) v (by
            rw [hr', List.getElem?_append_left (by simp; omega), fnV_get _ _ _ _ (by omega)]
            simp only [intsV, List.map_map, List.getElem?_map, List.getElem?_range hj] at hv
            exact hv)
          rw [add_add, add_lit, Nat.zero_add] at this
          exact this
  · rename_i k' xs n
    cases e
    simp only [AVRel, CVRel] at hx
    exact fz_slice hx
  · cases e

theorem row_owns {k : IntKind} {e : Nat} {xs : List Int} {bv : Value} {h : Heap} (H : RegRel h β w bv (.row e k xs)) : w.ownsRow 0 e 1 bv xs.length (intsV k xs) := by
  rcases H with ⟨rfl, rfl⟩ | ⟨b, cap, tail, rfl, hh, hc, hm⟩
  · exact ⟨by simp, .inl ⟨rfl, rfl⟩⟩
  · refine ⟨by simp, .inr ⟨b, cap, _, rfl, Nat.zero_le _, hh, by omega, hm, by simp; omega, ?_⟩⟩
    simp only [Nat.mul_one]
    exact take_app (by simp)

theorem owns_row {k : IntKind} {e : Nat} {xs : List Int} {bv : Value} {h : Heap} (H : w.ownsRow 0 e 1 bv xs.length (intsV k xs)) : RegRel h β w bv (.row e k xs) := by
  rcases H.2 with ⟨rfl, hn⟩ | ⟨b, cap, cur, rfl, _, hh, hc, hm, hs, ht⟩
  · exact .inl ⟨rfl, List.eq_nil_of_length_eq_zero hn⟩
  · refine .inr ⟨b, cap, cur.toList.drop xs.length, rfl, ?_, by simp; omega, hm⟩
    rw [hh]
    congr 2
    apply Array.ext'
    simp only []
    rw [Nat.mul_one] at ht
    rw [← ht, List.take_append_drop]

def kill (h : Heap) : Option Nat → Heap
  | some r0 => upd h r0 (some .dead)
  | none => h

/-- behind an append: the old row (if there was one) is given up, the new one lies in its block or in a new one -/
theorem Rel.appendedG (R : Rel P w0 fp nt β st a w) {d : Nat} (hd : dstOk nt (some d) = true) (hfree : st.heap d = none) {g0 : Reg} {v' : Value} {w' : World} {row : Option Nat} {r : Option Nat}
    (hown' : ∀ h', Mono st.heap β w h' (upd β d v') w' → RegRel h' (upd β d v') w' v' g0) (hblk : blkOf v' = v'.ownBlock) (hsl : FullOk v' v' g0) (hg : w.grownBy w' row) (hat : v'.ownBlock = row ∨ v'.ownBlock = some w.heap.size)
    (hrow : ∀ b, row = some b → ∃ r0 g, r = some r0 ∧ st.heap r0 = some g ∧ g.live ∧ blkOf (β r0) = some b) (hgone : ∀ r0, r = some r0 → ∃ g, st.heap r0 = some g) :
    Rel P w0 fp nt (upd β d v') { env := putEnv st.env (some d) (.c (.full d)), heap := upd (kill st.heap r) d (some g0) } (a.put (some d) v') w' := by
  have hne : ∀ r' g', st.heap r' = some g' → r' ≠ d := fun r' g' h1 h2 => by subst h2; rw [hfree] at h1; cases h1
  have look : ∀ r' g', (kill st.heap r) r' = some g' → g'.live → st.heap r' = some g' ∧ r ≠ some r' := by
    intro r' g' h1 h2
    cases r with
    | none => exact ⟨h1, by simp⟩
    | some r0 =>
      simp only [kill] at h1
      by_cases e0 : r' = r0
      · subst e0; rw [upd_same] at h1; cases h1; exact h2.elim
      · rw [upd_ne _ _ e0] at h1; exact ⟨h1, fun h => by cases h; exact e0 rfl⟩
  have hb' : ∀ b, blkOf v' = some b → (∃ r0 g, r = some r0 ∧ st.heap r0 = some g ∧ g.live ∧ blkOf (β r0) = some b) ∨ b = w.heap.size := by
    intro b hb
    rw [hblk] at hb
    rcases hat with h1 | h1
    · rw [h1] at hb; exact .inl (hrow b hb)
    · rw [h1] at hb; cases hb; exact .inr rfl
  refine R.update (w' := w') hd hg.os hg.tape hg.output hg.size (dst_hid R hd _) ?_ ?_ ?_ ?_ ?_ ?_ ?_
  · intro b hlt hno
    refine hg.block b hlt fun hb => hno ?_
    obtain ⟨r0, g, _, h2, h3, h4⟩ := hrow b hb.symm
    exact ⟨r0, g, h2, h3, h4⟩
  · rintro b ⟨r', g', h1, h2, h3⟩
    by_cases e0 : r' = d
    · subst e0
      rw [upd_same] at h3
      rcases hb' b h3 with ⟨r0, g, _, q2, q3, q4⟩ | rfl
      · exact .inl ⟨r0, g, q2, q3, q4⟩
      · exact .inr (Nat.le_refl _)
    · rw [upd_ne _ _ e0] at h1 h3
      exact .inl ⟨r', g', (look r' g' h1 h2).1, h2, h3⟩
  · intro r' g' h1
    have e0 := hne r' g' h1
    by_cases e1 : r = some r'
    · subst e1
      exact ⟨.dead, by rw [upd_ne _ _ e0]; simp only [kill]; exact upd_same _ _ _, by cases g' <;> trivial, fun h => h.elim⟩
    · refine ⟨g', ?_, .refl g', fun _ => upd_ne _ _ e0⟩
      rw [upd_ne _ _ e0]
      cases r with
      | none => exact h1
      | some r0 => simp only [kill]; rw [upd_ne _ _ (fun h => e1 (by rw [h]))]; exact h1
  · intro q g' hq h1
    have hne' : q ≠ d := fun h => by
      have h1 : d < nt := by simpa [dstOk, Nat.blt_eq] using hd
      have := R.small
      omega
    rw [upd_ne _ _ hne'] at h1
    cases r with
    | none => exact ⟨g', h1⟩
    | some r0 =>
      simp only [kill] at h1
      by_cases e0 : q = r0
      · obtain ⟨r1, g1, h2, h3, h4⟩ : ∃ r1 g1, some r0 = some r1 ∧ st.heap r1 = some g1 ∧ True := by
          cases hr1 : st.heap r0 with
          | some g1 => exact ⟨r0, g1, rfl, hr1, trivial⟩
          | none => exact absurd (hgone r0 rfl) (by rw [hr1]; rintro ⟨g, h⟩; cases h)
        cases h2
        exact ⟨g1, by rw [e0]; exact h3⟩
      · rw [upd_ne _ _ e0] at h1; exact ⟨g', h1⟩
  · intro M r' g' h1
    by_cases e0 : r' = d
    · subst e0
      rw [upd_same] at h1 ⊢
      cases h1
      exact hown' _ M
    · rw [upd_ne _ _ e0] at h1 ⊢
      cases g' with
      | dead => trivial
      | _ =>
        obtain ⟨h2, h3⟩ := look r' _ h1 trivial
        refine (R.heap r' _ h2).mono M fun b hb hl => hg.block b (OwnR.lt R ⟨r', _, h2, trivial, hb⟩) fun hbr => ?_
        obtain ⟨r0, g, q1, q2, q3, q4⟩ := hrow b hbr.symm
        have := R.sep r' r0 _ g b h2 q2 trivial q3 hb q4
        subst this
        exact h3 q1
  · intro r1 r2 g1 g2 b h1 h2 l1 l2 e1 e2
    have clash : ∀ r' g', r' ≠ d → (kill st.heap r) r' = some g' → g'.live → blkOf (β r') = some b → blkOf v' = some b → False := by
      intro r' g' _ h1 h2 h3 h4
      obtain ⟨q1, q2⟩ := look r' g' h1 h2
      rcases hb' b h4 with ⟨r0, g, p1, p2, p3, p4⟩ | rfl
      · have := R.sep r' r0 g' g b q1 p2 h2 p3 h3 p4
        subst this
        exact q2 p1
      · have := OwnR.lt R ⟨r', g', q1, h2, h3⟩
        omega
    by_cases d1 : r1 = d <;> by_cases d2 : r2 = d
    · rw [d1, d2]
    · subst d1
      rw [upd_same] at e1
      rw [upd_ne _ _ d2] at h2 e2
      exact (clash r2 g2 d2 h2 l2 e2 e1).elim
    · subst d2
      rw [upd_same] at e2
      rw [upd_ne _ _ d1] at h1 e1
      exact (clash r1 g1 d1 h1 l1 e1 e2).elim
    · rw [upd_ne _ _ d1] at h1 e1
      rw [upd_ne _ _ d2] at h2 e2
      exact R.sep r1 r2 g1 g2 b (look r1 g1 h1 l1).1 (look r2 g2 h2 l2).1 l1 l2 e1 e2
  · intro M
    simp only [AVRel, CVRel]
    exact ⟨_, upd_same _ _ _, by rw [upd_same]; exact hsl⟩

theorem Rel.appended (R : Rel P w0 fp nt β st a w) {d : Nat} (hd : dstOk nt (some d) = true) (hfree : st.heap d = none) {e : Nat} {k : IntKind} {zs : List Int} {v' : Value} {w' : World} {row : Option Nat} {r : Option Nat}
    (hown' : w'.ownsRow 0 e 1 v' zs.length (intsV k zs)) (hg : w.grownBy w' row) (hat : v'.ownBlock = row ∨ v'.ownBlock = some w.heap.size)
    (hrow : ∀ b, row = some b → ∃ r0 g, r = some r0 ∧ st.heap r0 = some g ∧ g.live ∧ blkOf (β r0) = some b) (hgone : ∀ r0, r = some r0 → ∃ g, st.heap r0 = some g) :
    Rel P w0 fp nt (upd β d v') { env := putEnv st.env (some d) (.c (.full d)), heap := upd (kill st.heap r) d (some (.row e k zs)) } (a.put (some d) v') w' := by
  have hblk : blkOf v' = v'.ownBlock := by
    rcases hown'.2 with ⟨rfl, _⟩ | ⟨g, cap, cur, rfl, _⟩ <;> rfl
  have hsl : v'.oneCell' = true := by
    rcases hown'.2 with ⟨rfl, _⟩ | ⟨g, cap, cur, rfl, _⟩ <;> rfl
  exact R.appendedG hd hfree (fun h' _ => owns_row hown') hblk ⟨rfl, hsl⟩ hg hat hrow hgone

theorem run_append_none {t ty e : Nat} {i : TypeInfo} (ht : P.underlying t = some (.slice e)) (hi : P.info? e = some i) (A : Option Addr) (n cap c : Nat) (hn : n ≤ cap) :
    (Builtin.append_ #[t, t] ty #[.slice A n cap, .slice none 0 c]).run P w = .ok (.slice A n cap) w := by
  cases A <;> simp [Builtin.append_, run_underlying ht, sizeOf, typeInfo, hi, Builtin.lenOf, Builtin.firstCells, hn, storeCells]

theorem intZero {t : Nat} {k : IntKind} {sz by' : Nat} {z : List CV} (h : TIOk P t ⟨.int k, sz, by', z⟩) : ∃ i zv, P.info? t = some i ∧ i.size = 1 ∧ i.bytes = by' ∧ i.zero = some zv ∧ zv.cells.size = 1 := by
  obtain ⟨i, hi, hsz, hby, zv, hz, hzs⟩ := h.info
  have h1 := h.agg1 rfl
  have h2 := (hzs (fun _ => none) (fun _ => undef) default).length
  have h3 := h.zsize
  simp only [] at h1 h3
  exact ⟨i, zv, hi, hsz.trans h1, hby, hz, by rw [h3, h1] at h2; simpa using h2⟩

theorem append_rel (hT : TabOk P T) (R : Rel P w0 fp nt β st a w) {dst : Option Nat} (hd : dstOk nt dst = true) {t ty : Nat} {s x : AV} {u y : Value} (hs : AVRel st.heap β w s u) (hy : AVRel st.heap β w x y)
    {rq : Option Req} {δ : Delta} (e : appendAV T st.heap dst t s x = some (rq, δ)) (hr : ∀ r, rq = some r → r.p) :
    ∃ v w', (Builtin.append_ #[t, t] ty #[u, y]).run P w = .ok v w' ∧ ∃ β', Rel P w0 fp nt β' (st.app dst δ) (a.put dst v) w' := by
  unfold appendAV at e
  split at e
  · rename_i d el sz by' z h1
    have ht := tdSlice (hT _ _ h1)
    split at e
    · rename_i k sz' bytes z' h2 hfree
      obtain ⟨i, zv, hi, hsz, hby, hz, hzs⟩ := intZero (hT _ _ h2)
      -- the second operand
      obtain ⟨k2, ys, rs, hys, hyv⟩ : ∃ k2 ys rs, (bif isNilSlice x then some (k, ([] : List Int), ([] : List Nat)) else sliceInts st.heap x) = some (k2, ys, rs) ∧
          ∃ A c, y = .slice A ys.length c ∧ (A = none → ys = []) ∧ ∀ A', A = some A' → ∀ j v, (intsV k2 ys)[j]? = some v → w.cell? (A'.add j) = some v := by
        cases hn : isNilSlice x with
        | true =>
          unfold isNilSlice at hn
          split at hn
          · simp only [AVRel, CVRel] at hy
            subst hy
            exact ⟨k, [], [], rfl, none, _, rfl, fun _ => rfl, fun A' h => by cases h⟩
          · cases hn
        | false =>
          rw [hn] at e
          simp only [cond_false] at e ⊢
          cases hsi : sliceInts st.heap x with
          | none => rw [hsi] at e; cases e
          | some q =>
            obtain ⟨k2, ys, rs⟩ := q
            exact ⟨k2, ys, rs, rfl, sliceInts_rel R hy hsi⟩
      simp only [hys] at e
      obtain ⟨A, c, rfl, hnil, hcells⟩ := hyv
      cases hk : k2 == k <;> simp only [hk, cond_true, cond_false] at e
      · cases e
      obtain rfl := beqK.1 hk
      -- the run, whatever owns the first operand
      have core : ∀ (xs : List Int) (u : Value), w.ownsRow 0 el 1 u xs.length (intsV k2 xs) → okBytes (xs.length + ys.length) bytes → xs.length + ys.length ≤ maxLen →
          ∃ v w', (Builtin.append_ #[t, t] ty #[u, .slice A ys.length c]).run P w = .ok v w' ∧ w'.ownsRow 0 el 1 v (xs ++ ys).length (intsV k2 (xs ++ ys)) ∧ w.grownBy w' u.ownBlock ∧ (v.ownBlock = u.ownBlock ∨ v.ownBlock = some w.heap.size) := by
        intro xs u hown hb hm
        cases A with
        | none =>
          have := hnil rfl
          subst this
          obtain ⟨A0, cap, rfl, hc⟩ : ∃ A0 cap, u = .slice A0 xs.length cap ∧ xs.length ≤ cap := by
            rcases hown.2 with ⟨rfl, h0⟩ | ⟨g, cap, cur, rfl, _, _, h0, _⟩
            · exact ⟨none, 0, by rw [h0], by omega⟩
            · exact ⟨_, cap, rfl, h0⟩
          exact ⟨_, w, run_append_none ht hi A0 xs.length cap c hc, by simpa using hown, ⟨rfl, rfl, rfl, Nat.le_refl _, fun _ _ _ => rfl⟩, .inl rfl⟩
        | some A =>
          obtain ⟨v, w', hrun, h2', h3, _, h5⟩ := append_own_far (P := P) w 0 t ty el i zv 1 bytes ht hi hz hsz hby hzs (by omega) u xs.length (intsV k2 xs) hown A ys.length c (intsV k2 ys) (by simp) (hcells A rfl)
            (by intro u hu; simp only [intsV, List.mem_map] at hu; obtain ⟨q, _, rfl⟩ := hu; rfl) hm hb (Nat.zero_le _)
          exact ⟨v, w', hrun, by simpa [intsV] using h2', h3, h5⟩
      have small : ∀ n, okBytes n bytes → n ≤ maxLen := by
        intro n hn
        have hp := (hT _ _ h2).bpos _ rfl
        simp only [] at hp
        unfold okBytes at hn
        have : n + n / 4 + 192 ≤ (n + n / 4 + 192) * bytes := Nat.le_mul_of_pos_right _ hp
        simp only [maxLen]
        omega
      split at e
      · rename_i r
        cases hg : st.heap r with
        | none => rw [hg] at e; cases e
        | some g =>
          rw [hg] at e
          cases g <;> simp only [] at e <;> try (cases e; done)
          rename_i e' k1 xs
          cases hb : (Nat.beq el e' && k1 == k2) <;> simp only [hb, cond_true, cond_false] at e
          · cases e
          simp only [Bool.and_eq_true] at hb
          obtain rfl := nbeq.1 hb.1
          obtain rfl := beqK.1 hb.2
          cases e
          have hin := hr _ rfl
          simp only [req] at hin
          obtain ⟨g', hg', hp⟩ := hs
          rw [hg] at hg'
          cases hg'
          obtain ⟨rfl, _⟩ := hp
          have hreg := R.heap r _ hg
          have hown := row_owns hreg
          obtain ⟨v, w', hrun, h3, h4, h5⟩ := core xs _ hown hin (small _ hin)
          refine ⟨v, w', hrun, _, R.appended (r := some r) hd hfree h3 h4 h5 (fun b hb' => ⟨r, _, rfl, hg, trivial, ?_⟩) (fun r0 h => by cases h; exact ⟨_, hg⟩)⟩
          rw [← hb']
          rcases hown.2 with ⟨h6, _⟩ | ⟨g, cap, cur, h6, _⟩ <;> rw [h6] <;> rfl
      · cases e
        have hin := hr _ rfl
        simp only [req] at hin
        simp only [AVRel, CVRel] at hs
        subst hs
        have hown : w.ownsRow 0 el 1 (.slice none 0 0) ([] : List Int).length (intsV k2 []) := ⟨by simp, .inl ⟨rfl, rfl⟩⟩
        obtain ⟨v, w', hrun, h3, h4, h5⟩ := core [] _ hown (by simpa using hin) (by simpa using small _ hin)
        exact ⟨v, w', hrun, _, R.appended (r := none) hd hfree h3 h4 h5 (fun b hb' => by cases hb') (fun r0 h => by cases h)⟩
      · cases e
    · cases e
  · cases e
end
end Go.Abs
