/- Reading by an index, fields of values, lengths, slices. -/
import Derived.Test.YthihjipdkhmgkaaAbsOps3L
set_option linter.unusedVariables false
set_option linter.unusedSimpArgs false
namespace Go.Abs
open Go.RowKit

section
variable {P : Program} {w0 : World} {fp : FP} {nt : Nat} {β : Nat → Value} {st : St} {a : Act} {w : World} {T : Tab} {o : Oper} {Q : Exit → Act → World → Prop}

theorem index_rel (hT : TabOk P T) {t : Nat} {k : IntKind} {i : Int} {x : AV} {u : Value} (hx : AVRel st.heap β w x u) {rq : Option Req} {δ : Delta} (e : indexAV T t x i = some (rq, δ)) (hr : ∀ r, rq = some r → r.p) :
    δ.hw = [] ∧ ∃ v, (Instr.index t u (.int k i)).run P w = .ok v w ∧ AVRel st.heap β w δ.av v := by
  unfold indexAV at e
  split at e
  · rename_i n el sz by' z k' m f rest h1
    obtain ⟨l, rfl, hs⟩ := hx
    obtain ⟨r, rfl, hr'⟩ := hs
    cases h2 : T.get el with
    | none => rw [h2] at e; cases e
    | some te =>
      rw [h2] at e
      simp only [] at e
      have hu := tdArray (hT _ _ h1)
      have hok := hT _ _ h2
      obtain ⟨ii, hi, hsz, _⟩ := hok.info
      have run : ∀ v, 0 ≤ i ∧ i < (n : Int) → partV el (isAggT te.d) te.size (fnV k' m f ++ r) (i.toNat * te.size) = some v → (Instr.index t (.agg (fnV k' m f ++ r).toArray) (.int k i)).run P w = .ok v w := by
        intro v hin hp
        have := run_part (P := P) (w := w) hok (fnV k' m f ++ r).toArray (i.toNat * te.size) (v := v) (by simpa using hp)
        simp [Instr.index, asIntOf_int, run_underlying hu, hin, run_sizeOf hi, hsz, this]
      cases ha : isAggT te.d <;> simp only [ha, cond_true, cond_false] at e
      · cases hb : Nat.ble n m <;> simp only [hb, cond_true, cond_false] at e
        · cases e
        have hb2 := nble.1 hb
        have hb1 := hok.agg1 ha
        cases e
        have hin := hr _ rfl
        simp only [req] at hin
        refine ⟨rfl, .int k' (f i.toNat), run _ hin ?_, by simp only [AVRel, CVRel]⟩
        rw [partV, ha, if_neg (by simp), hb1, Nat.mul_one, List.getElem?_append_left (by simp; omega), fnV_get _ _ _ _ (by omega)]
      · cases hb2 : Nat.ble (n * te.size) m <;> simp only [hb2, cond_true, cond_false] at e
        · cases e
        have hm := nble.1 hb2
        cases e
        have hin := hr _ rfl
        simp only [req] at hin
        have hle : i.toNat * te.size + te.size ≤ n * te.size := by
          calc i.toNat * te.size + te.size = (i.toNat + 1) * te.size := by rw [Nat.add_mul, Nat.one_mul]
            _ ≤ n * te.size := Nat.mul_le_mul_right _ (by omega)
        refine ⟨rfl, _, run _ hin (by rw [partV, if_pos ha]), _, rfl, [], ?_, rfl⟩
        rw [List.append_nil, List.drop_append_of_le_length (by simp; omega), List.take_append_of_le_length (by simp; omega), fnV_drop_take _ _ _ _ _ (by omega)]
  · rename_i sz by' z s h1
    cases e
    have hin := hr _ rfl
    simp only [req] at hin
    simp only [AVRel, CVRel] at hx
    subst hx
    have hu := tdStr (hT _ _ h1)
    have hlt : i.toNat < s.size := by omega
    refine ⟨rfl, .int .u8 (strAt s i), ?_, by simp only [AVRel, CVRel]⟩
    have hget : s[i.toNat]? = some (s.data.getD i.toNat 0) := by
      have : i.toNat < s.data.size := hlt
      simp [getElem?_pos, hlt, this]
      rfl
    simp [Instr.index, asIntOf_int, run_underlying hu, hin.1, hget, strAt]
  · cases e

theorem field_rel (hT : TabOk P T) {s f : Nat} {x : AV} {u : Value} (hx : AVRel st.heap β w x u) {rq : Option Req} {δ : Delta} (e : fieldAV T s f x = some (rq, δ)) :
    δ.hw = [] ∧ ∃ v, (Instr.field s u f).run P w = .ok v w ∧ AVRel st.heap β w δ.av v := by
  unfold fieldAV at e
  split at e
  · rename_i cs
    obtain ⟨l, rfl, hs⟩ := hx
    cases h1 : T.get s with
    | none => rw [h1] at e; cases e
    | some ti =>
      rw [h1] at e
      obtain ⟨td, sz, by', z⟩ := ti
      cases td <;> simp only [] at e <;> try (cases e; done)
      rename_i fs
      cases h2 : fieldOf fs f with
      | none => rw [h2] at e; cases e
      | some to =>
        obtain ⟨t, off⟩ := to
        rw [h2] at e
        simp only [] at e
        cases h3 : T.get t with
        | none => rw [h3] at e; cases e
        | some ft =>
          cases h4 : dropSegs cs off with
          | none => rw [h3, h4] at e; cases e
          | some cs' =>
            rw [h3, h4] at e
            simp only [] at e
            cases h5 : readSegs ft none cs' with
            | none => rw [h5] at e; cases e
            | some av =>
              rw [h5] at e
              cases e
              obtain ⟨h6, h7⟩ := dropSegs_rel hs h4
              have hok := hT _ _ h3
              obtain ⟨h8, h9, h10⟩ := readSegs_rel h7 h5 (fun i lim e => by cases e) hok.agg1
              obtain ⟨fl, hu, hl⟩ := tdStruct (hT _ _ h1)
              obtain ⟨fd, hfd, rfl, rfl⟩ := fieldOf_rel hl h2
              simp only [offOf, List.drop_zero, Nat.zero_add] at h8 h9 h10
              refine ⟨rfl, ?_⟩
              have run : ∀ v, partV fd.type (isAggT ft.d) ft.size l fd.offset = some v → (Instr.field s (.agg l.toArray) f).run P w = .ok v w := by
                intro v hp
                have := run_part (P := P) (w := w) hok l.toArray fd.offset (v := v) (by simpa using hp)
                simp [Instr.field, run_underlying hu, hfd, asAgg, this]
              cases ha : isAggT ft.d with
              | true => exact ⟨_, run _ (by rw [partV, if_pos ha]), h9 ha⟩
              | false =>
                obtain ⟨v, hv, hr⟩ := h10 ha
                exact ⟨v, run v (by rw [partV, ha, if_neg (by simp)]; simpa using hv), hr⟩
  · cases e

theorem len_rel (hT : TabOk P T) (R : Rel P w0 fp nt β st a w) {t ty : Nat} {x : AV} {u : Value} (hx : AVRel st.heap β w x u) {rq : Option Req} {δ : Delta} (e : lenAV T st.heap t x = some (rq, δ)) :
    δ.hw = [] ∧ ∃ v, (Builtin.len_ #[t] ty #[u]).run P w = .ok v w ∧ AVRel st.heap β w δ.av v := by
  unfold lenAV at e
  split at e
  · rename_i el sz by' z h1
    have hu := tdSlice (hT _ _ h1)
    have run : ∀ A n c, (Builtin.len_ #[t] ty #[.slice A n c]).run P w = .ok (.int .i64 n) w := fun A n c => by simp [Builtin.len_, run_underlying hu, goInt]
    split at e
    · rename_i r
      cases hg : st.heap r with
      | none => rw [hg] at e; cases e
      | some g =>
        rw [hg] at e
        cases g <;> simp only [] at e <;> try (cases e; done)
        rename_i e' k' xs
        cases e
        obtain ⟨g', hg', hp⟩ := hx
        rw [hg] at hg'
        cases hg'
        obtain ⟨rfl, _⟩ := hp
        rcases R.heap r _ hg with ⟨hn, rfl⟩ | ⟨b, cap, tail, hbv, hh, hc, hm⟩
        · rw [hn]; exact ⟨rfl, _, run _ _ _, by simp only [AVRel, CVRel]; rfl⟩
        · rw [hbv]; exact ⟨rfl, _, run _ _ _, by simp only [AVRel, CVRel]⟩
    · rename_i r p n
      cases hg : st.heap r with
      | none => rw [hg] at e; cases e
      | some g =>
        rw [hg] at e
        cases g <;> simp only [] at e <;> try (cases e; done)
        cases e
        obtain ⟨g', hg', hp⟩ := hx
        rw [hg] at hg'
        cases hg'
        obtain ⟨_, A, cap, A', _, rfl, _⟩ := hp
        exact ⟨rfl, _, run _ _ _, by simp only [AVRel, CVRel]⟩
    · rename_i r base lo n lim
      cases hb : cellsB st.heap r <;> simp only [hb, cond_true, cond_false] at e
      · cases e
      obtain ⟨segs, hs⟩ := cellsB_rel hb
      cases e
      obtain ⟨g', hg', hp⟩ := hx
      rw [hs] at hg'
      cases hg'
      obtain ⟨b, _, _, _, rfl⟩ := hp
      exact ⟨rfl, _, run _ _ _, by simp only [AVRel, CVRel]⟩
    · cases e
      simp only [AVRel, CVRel] at hx
      cases hx
      exact ⟨rfl, _, run _ _ _, by simp only [AVRel, CVRel]⟩
    · cases e
      simp only [AVRel, CVRel] at hx
      subst hx
      exact ⟨rfl, _, run _ _ _, by simp only [AVRel, CVRel]⟩
    · cases e
  · rename_i sz by' z h1
    have hu := tdStr (hT _ _ h1)
    split at e
    · rename_i s
      cases e
      simp only [AVRel, CVRel] at hx
      subst hx
      exact ⟨rfl, .int .i64 s.size, by simp [Builtin.len_, run_underlying hu, goInt], by simp only [AVRel, CVRel]⟩
    · cases e
  · rename_i n el sz by' z h1
    have hu := tdArray (hT _ _ h1)
    cases e
    exact ⟨rfl, .int .i64 n, by simp [Builtin.len_, run_underlying hu, goInt], by simp only [AVRel, CVRel]⟩
  · cases e

theorem minMax_rel {mx : Bool} {l : List AV} {us : List Value} (hx : AVsRel st.heap β w l us) {rq : Option Req} {δ : Delta} (e : minMax mx l = some (rq, δ)) (ts : Array Nat) (ty : Nat) :
    δ.hw = [] ∧ ∃ v, (if mx then Builtin.max_ ts ty us.toArray else Builtin.min_ ts ty us.toArray).run P w = .ok v w ∧ AVRel st.heap β w δ.av v := by
  unfold minMax at e
  split at e
  · rename_i k x
    cases e
    simp only [AVsRel, AVRel, CVRel] at hx
    obtain ⟨v, r, rfl, rfl, rfl⟩ := hx
    refine ⟨rfl, .int k x, ?_, by simp only [AVRel, CVRel]⟩
    cases mx <;> simp [Builtin.max_, Builtin.min_]
  · rename_i k x k' y
    cases hk : k == k' <;> simp only [hk, cond_true, cond_false] at e
    · cases e
    obtain rfl := beqK.1 hk
    cases e
    simp only [AVsRel, AVRel, CVRel] at hx
    obtain ⟨v, r, rfl, rfl, v', r', rfl, rfl, rfl⟩ := hx
    refine ⟨rfl, .int k (bif mx then (if x < y then y else x) else (if y < x then y else x)), ?_, by simp only [AVRel, CVRel]⟩
    cases mx <;> simp [Builtin.max_, Builtin.min_, Builtin.max2, Builtin.min2]
  · rename_i k x k' y k'' z
    cases hk : (k == k' && k == k'') <;> simp only [hk, cond_true, cond_false] at e
    · cases e
    simp only [Bool.and_eq_true] at hk
    obtain rfl := beqK.1 hk.1
    obtain rfl := beqK.1 hk.2
    cases e
    simp only [AVsRel, AVRel, CVRel] at hx
    obtain ⟨v, r, rfl, rfl, v', r', rfl, rfl, v'', r'', rfl, rfl, rfl⟩ := hx
    refine ⟨rfl, .int k (bif mx then (if (if x < y then y else x) < z then z else (if x < y then y else x)) else (if z < (if y < x then y else x) then z else (if y < x then y else x))), ?_, by simp only [AVRel, CVRel]⟩
    cases mx <;> simp [Builtin.max_, Builtin.min_, Builtin.max2, Builtin.min2] <;> split <;> rfl
  · cases e
end
end Go.Abs
