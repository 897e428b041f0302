/- Operations on data: append, copy; all of them are right; what they depend on. -/
import Derived.Test.YthihjipdkhmgkaaAbsMapL
set_option linter.unusedVariables false
set_option linter.unusedSimpArgs false
namespace Go.Abs
universe u
open Go.RowKit

section
variable {P : Program} {w0 : World} {fp : FP} {nt : Nat} {β : Nat → Value} {st : St} {a : Act} {w : World} {T : Tab} {o : Oper} {Q : Exit → Act → World → Prop}

theorem getD_int {xs : List Int} {i : Nat} (hi : i < xs.length) : xs.getD i 0 = xs[i] := by
  rw [List.getD_eq_getElem?_getD, List.getElem?_eq_getElem hi]; rfl

theorem flat_size {d : DT} : ∀ (xs : List d.T), segSize (xs.flatMap (encD d)) = xs.length * d.size := by
  intro xs
  induction xs with
  | nil => simp [segSize]
  | cons x xs ih => rw [List.flatMap_cons, segSize_append, encD_size, List.length_cons, Nat.add_mul, ih]; omega

theorem rowd_owns {d : DT} {e : Nat} {xs : List d.T} {bv : Value} {h : Heap} (H : RegRel h β w bv (.rowd e d xs)) : ∃ l, SegsRel h β w (xs.flatMap (encD d)) l ∧ w.ownsRow 0 e d.size bv xs.length l ∧ ∀ v ∈ l, v.oneCell' = true := by
  have hsz : ∀ {xs : List d.T} {l : List Value}, SegsRel h β w (xs.flatMap (encD d)) l → l.length = xs.length * d.size := by
    intro xs l hs
    rw [hs.length, flat_size]
  rcases H with ⟨rfl, rfl⟩ | ⟨b, cap, l, tail, rfl, hh, hs, hl, hxc, hm⟩
  · exact ⟨[], rfl, ⟨by simp, .inl ⟨rfl, rfl⟩⟩, by simp⟩
  · have hls := hsz hs
    refine ⟨l, hs, ⟨hls, .inr ⟨b, cap, _, rfl, Nat.zero_le _, hh, hxc, hm, by simpa using hl, ?_⟩⟩, hs.one⟩
    simp only [← hls]
    exact List.take_left

theorem append2_rel (hT : TabOk P T) (R : Rel P w0 fp nt β st a w) {dst : Option Nat} (hd : dstOk nt dst = true) {t ty : Nat} {s x : AV} {u y : Value} (hs : AVRel st.heap β w s u) (hy : AVRel st.heap β w x y)
    {rq : Option Req} {δ : Delta} (e : append2 T st.heap dst t s x = some (rq, δ)) (hr : ∀ r, rq = some r → r.p) :
    ∃ v w', (Builtin.append_ #[t, t] ty #[u, y]).run P w = .ok v w' ∧ ∃ β', Rel P w0 fp nt β' (st.app dst δ) (a.put dst v) w' := by
  unfold append2 at e
  split at e
  · rename_i q el sz by' z h1
    have ht := tdSlice (hT _ _ h1)
    split at e
    · rename_i te d h2 h3 hfree
      have h40 := cond_some e
      have h4 := h40.1
      replace e := h40.2
      clear h40
      simp only [Bool.and_eq_true] at h4
      obtain ⟨⟨hsz, hpos⟩, hby⟩ := h4
      have hsz := nbeq.1 hsz
      have hpos := nblt.1 hpos
      have hby := nblt.1 hby
      obtain ⟨i, zv, hi, his, hib, hz, hzs⟩ := datInfo hT h2
      split at e
      · rename_i ys rs hys
        obtain ⟨A, c, lm, rfl, hnil, hcells, hsegs⟩ := dataOf_rel R hy hys
        have hlm : lm.length = ys.length * te.size := by
          rw [hsegs.length, hsz, flat_size]
        have core : ∀ (n : Nat) (l : List Value) (u : Value), w.ownsRow 0 el te.size u n l → (∀ v ∈ l, v.oneCell' = true) → okBytes (n + ys.length) te.bytes →
            ∃ v w', (Builtin.append_ #[t, t] ty #[u, .slice A ys.length c]).run P w = .ok v w' ∧ w'.ownsRow 0 el te.size v (n + ys.length) (l ++ lm) ∧ w.grownBy w' u.ownBlock ∧ (v.ownBlock = u.ownBlock ∨ v.ownBlock = some w.heap.size) := by
          intro n l u hown h1' hb
          have hm : n + ys.length ≤ maxLen := by
            unfold okBytes at hb
            have : (n + ys.length) + (n + ys.length) / 4 + 192 ≤ ((n + ys.length) + (n + ys.length) / 4 + 192) * te.bytes := Nat.le_mul_of_pos_right _ hby
            simp only [maxLen]
            omega
          cases A with
          | none =>
            have h0 := hnil rfl
            subst h0
            have hlm0 : lm = [] := List.eq_nil_of_length_eq_zero (by simpa using hlm)
            subst hlm0
            obtain ⟨A0, cap, rfl, hc⟩ : ∃ A0 cap, u = .slice A0 n cap ∧ n ≤ cap := by
              rcases hown.2 with ⟨rfl, h0⟩ | ⟨g, cap, cur, rfl, _, _, h0, _⟩
              · exact ⟨none, 0, by rw [h0], by omega⟩
              · exact ⟨_, cap, rfl, h0⟩
            exact ⟨_, w, run_append_none ht hi A0 n cap c hc, by simpa using hown, ⟨rfl, rfl, rfl, Nat.le_refl _, fun _ _ _ => rfl⟩, .inl rfl⟩
          | some A =>
            obtain ⟨v, w', hrun, h2', h3, _, h5⟩ := append_own_far (P := P) w 0 t ty el i zv te.size te.bytes ht hi hz his hib hzs hpos u n l hown A ys.length c lm hlm (hcells A rfl) hsegs.one hm hb (Nat.zero_le _)
            exact ⟨v, w', hrun, h2', h3, h5⟩
        -- what the new row holds
        have made : ∀ (xs : List d.T) (l : List Value) (row : Option Nat) (r : Option Nat) (v : Value) (w' : World), SegsRel st.heap β w (xs.flatMap (encD d)) l → (∀ u ∈ l, u.oneCell' = true) → w'.ownsRow 0 el te.size v (xs.length + ys.length) (l ++ lm) → w.grownBy w' row →
            (v.ownBlock = row ∨ v.ownBlock = some w.heap.size) → (∀ b, row = some b → ∃ r0 g, r = some r0 ∧ st.heap r0 = some g ∧ g.live ∧ blkOf (β r0) = some b) → (∀ r0, r = some r0 → ∃ g, st.heap r0 = some g) →
            Rel P w0 fp nt (upd β q v) { env := putEnv st.env (some q) (.c (.full q)), heap := upd (kill st.heap r) q (some (.rowd el d (xs ++ ys))) } (a.put (some q) v) w' := by
          intro xs l row r v w' hxs h1' hown' hg hat hrow hgone
          have hblk : blkOf v = v.ownBlock := by
            rcases hown'.2 with ⟨rfl, _⟩ | ⟨g, cap, cur, rfl, _⟩ <;> rfl
          have hsl : v.oneCell' = true := by
            rcases hown'.2 with ⟨rfl, _⟩ | ⟨g, cap, cur, rfl, _⟩ <;> rfl
          refine R.appendedG hd hfree (fun h' M => ?_) hblk ⟨rfl, hsl⟩ hg hat hrow hgone
          have hall := (hxs.append hsegs).mono M
          rw [← List.flatMap_append] at hall
          rcases hown'.2 with ⟨rfl, hn⟩ | ⟨g, cap, cur, rfl, _, hh, hc, hm, hcs, htk⟩
          · exact .inl ⟨rfl, List.eq_nil_of_length_eq_zero (by simpa using hn)⟩
          · have hll : (l ++ lm).length = (xs.length + ys.length) * te.size := hown'.1
            refine .inr ⟨g, cap, l ++ lm, cur.toList.drop ((xs.length + ys.length) * te.size), by rw [List.length_append], ?_, hall, ?_, by rw [List.length_append]; exact hc, hm⟩
            · rw [hh]
              congr 2
              apply Array.ext'
              simp only []
              rw [← htk, List.take_append_drop]
            · have e1 : (cur.toList.drop ((xs.length + ys.length) * te.size)).length = cap * te.size - (xs.length + ys.length) * te.size := by
                rw [List.length_drop]; congr 1
              rw [hll, e1, ← hsz]
              have := Nat.mul_le_mul_right te.size hc
              omega
        split at e
        · rename_i r
          split at e
          · rename_i e' d' xs0 hg
            have h50 := cond_some e
            obtain rfl := nbeq.1 h50.1
            replace e := h50.2
            clear h50
            split at e
            · rename_i xs hxs
              cases e
              obtain ⟨e0, hxs⟩ := asDT_spec hxs
              subst e0; subst hxs
              have hin := hr _ rfl
              simp only [req] at hin
              simp only [AVRel, CVRel] at hs
              obtain ⟨g', hg', hp⟩ := hs
              rw [hg] at hg'
              cases hg'
              obtain ⟨rfl, _⟩ := hp
              obtain ⟨l, hls, hown, hone⟩ := rowd_owns (R.heap r _ hg)
              rw [← hsz] at hown
              obtain ⟨v, w', hrun, g3, g4, g5⟩ := core _ l _ hown hone hin
              refine ⟨v, w', hrun, _, made _ l _ (some r) v w' hls hone g3 g4 g5 (fun b hb' => ⟨r, _, rfl, hg, trivial, ?_⟩) (fun r0 h => by cases h; exact ⟨_, hg⟩)⟩
              rw [← hb']
              rcases hown.2 with ⟨h6, _⟩ | ⟨g, cap, cur, h6, _⟩ <;> rw [h6] <;> rfl
            · cases e
          · cases e
        · rename_i v0
          obtain ⟨h5, h6⟩ := cond_some e
          cases h6
          obtain rfl := isNilS_spec h5
          have hin := hr _ rfl
          simp only [req] at hin
          simp only [AVRel, CVRel] at hs
          subst hs
          have hown : w.ownsRow 0 el te.size (.slice none 0 0) 0 [] := ⟨by simp, .inl ⟨rfl, rfl⟩⟩
          obtain ⟨v, w', hrun, g3, g4, g5⟩ := core 0 [] _ hown (by simp) (by simpa using hin)
          have := made [] [] _ none v w' rfl (by simp) g3 g4 g5 (fun b hb' => by cases hb') (fun r0 h => by cases h)
          exact ⟨v, w', hrun, _, this⟩
        · cases e
      · cases e
    · cases e
  · cases e

/-- A copy into an own row. -/
theorem copy_rel (hT : TabOk P T) (R : Rel P w0 fp nt β st a w) {dst : Option Nat} (hd : dstOk nt dst = true) {t t' ty e e' sz by' : Nat} {z : List CV} {r : Nat} {k k' : IntKind} {xs ys : List Int} {sz2 by2 : Nat} {z2 : List CV} {x : AV} {y : Value} {rs hr : List Nat}
    (h1 : T.get t = some ⟨.slice e, sz, by', z⟩) (h2 : T.get e = some ⟨.int k', sz2, by2, z2⟩) (hg : st.heap r = some (.row e' k xs)) (hy : AVRel st.heap β w x y)
    (hys : (bif isNilSlice x then some (k, ([] : List Int), ([] : List Nat)) else sliceInts st.heap x) = some (k, ys, rs)) :
    ∃ w', (Builtin.copy_ #[t, t'] ty #[β r, y]).run P w = .ok (.int .i64 (min ys.length xs.length : Nat)) w' ∧ ∃ β', Rel P w0 fp nt β' (st.app dst ⟨.c (.int .i64 (min ys.length xs.length : Nat)), [(r, .row e' k (ys.take (min ys.length xs.length) ++ xs.drop (min ys.length xs.length)))], hr⟩) (a.put dst (.int .i64 (min ys.length xs.length : Nat))) w' := by
  have hu := tdSlice (hT _ _ h1)
  obtain ⟨i, zv, hi, hsz, hby, hz, hzs⟩ := intZero (hT _ _ h2)
  have hs1 : (P.info? e).map (·.size) = some 1 := by rw [hi]; simp [hsz]
  obtain ⟨A, c, rfl, hnil, hcells⟩ : ∃ A c, y = .slice A ys.length c ∧ (A = none → ys = []) ∧ ∀ A', A = some A' → ∀ j v, (intsV k ys)[j]? = some v → w.cell? (A'.add j) = some v := by
    cases hn : isNilSlice x with
    | true =>
      rw [hn] at hys
      cases hys
      unfold isNilSlice at hn
      split at hn
      · simp only [AVRel, CVRel] at hy
        subst hy
        exact ⟨none, _, rfl, fun _ => rfl, fun A' h => by cases h⟩
      · cases hn
    | false =>
      rw [hn] at hys
      simp only [cond_false] at hys
      exact sliceInts_rel R hy hys
  have goi : ∀ n : Nat, goInt n = Value.int .i64 (n : Int) := fun n => rfl
  have same : ∀ (v : Value) (w' : World), w' = w → ys.take (min ys.length xs.length) ++ xs.drop (min ys.length xs.length) = xs → v = .int .i64 (min ys.length xs.length : Nat) → ∃ β', Rel P w0 fp nt β' (st.app dst ⟨.c (.int .i64 (min ys.length xs.length : Nat)), [(r, .row e' k (ys.take (min ys.length xs.length) ++ xs.drop (min ys.length xs.length)))], hr⟩) (a.put dst v) w' := by
    intro v w' hw he hv
    subst hw
    rw [he, hv]
    have hh : heapPut st.heap [(r, .row e' k xs)] = st.heap := by
      simp only [heapPut]
      funext q
      rw [upd_at]
      split
      · rename_i h; rw [h, hg]
      · rfl
    refine ⟨β, ?_⟩
    have := R.pure (dst := dst) (av := .c (.int .i64 (min ys.length xs.length : Nat))) (v := .int .i64 (min ys.length xs.length : Nat)) (hr := []) hd (by simp only [AVRel, CVRel])
    simp only [St.app, hh] at this ⊢
    exact this
  rcases R.heap r _ hg with ⟨hn, he⟩ | ⟨b, cap, tail, hbv, hh, hcp, hm⟩
  · rw [hn]
    subst he
    refine ⟨w, ?_, same _ w rfl (by simp) rfl⟩
    rw [run_copy_none w t t' ty e none A 0 0 ys.length c hu hs1 (by simp)]
    show Result.ok (Value.int .i64 0) w = _
    simp
  · by_cases h0 : min ys.length xs.length = 0
    · refine ⟨w, ?_, same _ w rfl (by rw [h0]; simp) rfl⟩
      rw [hbv, run_copy_none w t t' ty e _ A xs.length cap ys.length c hu hs1 (by simpa using h0), h0]
      rfl
    · cases A with
      | none => have := hnil rfl; subst this; simp at h0
      | some A =>
        have hcl : ((intsV k ys).take (min ys.length xs.length)).length = Nat.min ys.length xs.length := by
          rw [List.length_take, intsV_length]
          show min (min ys.length xs.length) ys.length = min ys.length xs.length
          omega
        have hrun := run_copy_row (P := P) w t t' ty e b 0 xs.length cap A ys.length c (intsV k xs ++ tail).toArray e' ((intsV k ys).take (min ys.length xs.length)) hu hs1 hh hcl (fun j v hv => hcells A rfl j v (by
          rw [List.getElem?_take] at hv
          split at hv
          · exact hv
          · cases hv)) (by rw [hcl]; simp; show min ys.length xs.length ≤ _; omega) (by intro v hv; have := List.mem_of_mem_take hv; simp only [intsV, List.mem_map] at this; obtain ⟨n, _, rfl⟩ := this; rfl)
        have hcl' : ((intsV k ys).take (min ys.length xs.length)).length = min ys.length xs.length := hcl
        rw [hcl'] at hrun
        rw [hbv]
        refine ⟨_, by rw [hrun, goi], β, ?_⟩
        have hlen : (ys.take (min ys.length xs.length) ++ xs.drop (min ys.length xs.length)).length = xs.length := by
          rw [List.length_append, List.length_take, List.length_drop]; omega
        have hR := R.write (g' := .row e' k (ys.take (min ys.length xs.length) ++ xs.drop (min ys.length xs.length))) (dst := dst) hg trivial (by rw [hbv]; rfl) ⟨rfl, rfl, hlen⟩ hd
          (cs := ((intsV k xs ++ tail).take 0 ++ (intsV k ys).take (min ys.length xs.length) ++ (intsV k xs ++ tail).drop (0 + min ys.length xs.length)).toArray) (fun h' M => by
            refine .inr ⟨b, cap, tail, by rw [hlen]; exact hbv, ?_, by rw [hlen]; exact hcp, hm⟩
            rw [setRow_block hh]
            congr 3
            simp only [List.take_zero, List.nil_append, Nat.zero_add]
            rw [List.drop_append_of_le_length (by simp; omega)]
            simp only [intsV, List.map_append, List.map_take, List.map_drop, List.append_assoc])
        have hR2 : Rel P w0 fp nt β { env := putEnv st.env dst (.c (.int .i64 (min ys.length xs.length : Nat))), heap := upd st.heap r (some (.row e' k (ys.take (min ys.length xs.length) ++ xs.drop (min ys.length xs.length)))) } (a.put dst (.int .i64 (min ys.length xs.length : Nat)))
            (w.setRow b ((intsV k xs ++ tail).take 0 ++ (intsV k ys).take (min ys.length xs.length) ++ (intsV k xs ++ tail).drop (0 + min ys.length xs.length)).toArray) := by
          have hsize : ∀ v, (a.put dst v).tmps.size = a.tmps.size := fun v => by cases dst <;> simp [Act.put]
          have hdd : ∀ d, dst = some d → d < a.tmps.size := fun d e => by subst e; rw [R.size]; simpa [dstOk, Nat.blt_eq] using hd
          refine ⟨by cases dst <;> simp [Act.put, R.defers], by rw [hsize]; exact R.size, R.small, fun t av ht => ?_, hR.heap, hR.sep, hR.lo, hR.hid, hR.hb, hR.os, hR.tape, hR.output, hR.grow, hR.keep, hR.anc, hR.ancN⟩
          have h7 := hR.env
          rw [getD_put hdd]
          cases dst with
          | none =>
            rw [if_neg (by simp)]
            have := h7 t av (by simpa [putEnv] using ht)
            rwa [getD_put hdd, if_neg (by simp)] at this
          | some d =>
            by_cases ed : d = t
            · subst ed
              simp only [putEnv, upd_same, Option.some.injEq] at ht
              subst ht
              rw [if_pos rfl]
              simp only [AVRel, CVRel]
            · rw [if_neg (by simpa using ed)]
              have h8 := h7 t av (by simp only [putEnv] at ht ⊢; rw [upd_ne _ _ (Ne.symm ed)] at ht ⊢; exact ht)
              rwa [getD_put hdd, if_neg (by simpa using ed)] at h8
        exact hR2

theorem aop2_sound (hT : TabOk P T) (R : Rel P w0 fp nt β st a w) (hd : dstOk nt o.dst = true) {rq : Option Req} {δ : Delta} (e : aop2 T o st = some (rq, δ)) (hr : ∀ r, rq = some r → r.p) :
    o.wp P a w (Post P w0 fp nt (st.app o.dst δ)) Q := by
  have fin : ∀ (v : Value), (execOp a.eval o).run P w = .ok (.value v) w → δ.hw = [] → AVRel st.heap β w δ.av v → o.wp P a w (Post P w0 fp nt (st.app o.dst δ)) Q := by
    intro v h1 h2 h3
    obtain ⟨av, hw, hr'⟩ := δ
    simp only at h2
    subst h2
    exact fin_pure R hd h1 h3
  have fin' : ∀ (v : Value) (w' : World), (execOp a.eval o).run P w = .ok (.value v) w' → (∃ β', Rel P w0 fp nt β' (st.app o.dst δ) (a.put o.dst v) w') → o.wp P a w (Post P w0 fp nt (st.app o.dst δ)) Q := fun v w' h1 h2 => wp_val h1 h2
  cases hop : o.op
  case makeFunc f first caps =>
    simp only [aop2, hop] at e
    split at e
    · rename_i f' rs h1 h2
      cases e
      obtain ⟨h3, h4⟩ := capRegs_rel R h2
      have hf : first = #[] := by apply Array.toList_inj.1; simpa using h1
      subst hf
      refine fin (.func (.func f') #[] (caps.map a.eval)) (by simp [execOp, hop, Instr.makeFunc]) rfl ?_
      simp only [AVRel, CVRel]
      refine ⟨caps.toList.map a.eval, ?_, by simp [h3], h4⟩
      congr 1
      apply Array.toList_inj.1
      simp
    · cases e
  case convert s d x =>
    simp only [aop2, hop] at e
    cases h1 : opd st x with
    | none => rw [h1] at e; cases e
    | some av =>
      rw [h1] at e
      obtain ⟨v, w', h2, h3⟩ := convert2_rel hT R hd (opd_rel R h1) e
      exact fin' v w' (by simp [execOp, hop, Sem.run_bind, h2]) h3
  case buildSlice t n ps =>
    obtain ⟨v, w', h1, h2⟩ := buildDat_rel hT R hd hop e
    exact fin' v w' (by simp [execOp, hop, Sem.run_bind, h1]) h2
  case sliceToArrayPointer d x =>
    simp only [aop2, hop] at e
    split at e
    · rename_i n el _ _ _ k xs m h1 h2
      have ht := tdArray (hT _ _ h1)
      obtain ⟨h3, h4⟩ := cond_some e
      cases h4
      have hn := nblt.1 h3
      have hp := hr _ rfl
      simp only [req] at hp
      have hx := opd_rel R h2
      simp only [AVRel, CVRel] at hx
      generalize hu : a.eval x = u at hx
      cases hx with
      | fz _ _ _ A c hnl hc h0 hat =>
        cases A with
        | none =>
          have h9 := (h0 rfl).1
          have h10 : List.length xs = 0 := by rw [h9]; rfl
          have hp := Int.ofNat_le.1 hp
          omega
        | some A =>
          have hxl : n ≤ List.length (α := Int) xs := Nat.le_trans (Int.ofNat_le.1 hp) hnl
          refine fin (.pointer (some A)) ?_ rfl ?_
          · simp only [execOp, hop, hu, Instr.arrayAt, Sem.run_bind, run_underlying ht, Result.andThen_ok]
            rw [if_neg (by have := Int.ofNat_le.1 hp; omega)]
            rfl
          · simp only [AVRel, CVRel, offOf]
            refine ⟨A, by rw [add_zero'], ?_, by simp [segSize, CV.size], fun i lim h => by cases h⟩
            have hcell : ∀ i, i < n → w.cell? (A.add i) = some (.int k (List.getD (α := Int) xs i 0)) ∧ ¬ Own st.heap β A.block := by
              intro i hi
              have hi' : i < List.length (α := Int) xs := by omega
              have := hat A rfl i hi'
              have H : FzAtI w (Own st.heap β) (FzV w (Own st.heap β)) [.int k (List.getD (α := Int) xs i 0)] (A.add i) := by
                rw [getD_int (xs := xs) hi']
                have e2 : i * (DT.int k).size = i := Nat.mul_one i
                rw [e2] at this
                exact this
              cases H with
              | one c cs a' v hc ho hv hr' =>
                cases hv
                exact ⟨hc, by rw [add_blk] at ho; exact ho⟩
            exact .ints k n _ [] A (fun i hi => (hcell i hi).1) (fun h => (hcell 0 h).2) (.nil _)
    · cases e
  case call c =>
    obtain ⟨callee, args, tys⟩ := c
    cases callee with
    | value => simp only [aop2, hop] at e; cases e
    | invoke => simp only [aop2, hop] at e; cases e
    | builtin b =>
      simp only [aop2, hop] at e
      split at e
      · rename_i av x h1
        split at e
        · rename_i t t2 r h2
          split at e
          · rename_i el _ _ _ e' k xs h3 hg
            split at e
            · rename_i k' _ _ _ h4
              split at e
              · rename_i k2 ys rs hys
                obtain ⟨h5, h6⟩ := cond_some e
                cases h6
                simp only [Bool.and_eq_true] at h5
                obtain rfl := beqK.1 h5.1
                have hx := opds_rel R h1
                simp only [AVsRel] at hx
                obtain ⟨u, r', h7, hu, u2, r2, rfl, hu2, rfl⟩ := hx
                simp only [AVRel, CVRel] at hu
                obtain ⟨g, hg', hp⟩ := hu
                rw [hg] at hg'
                cases hg'
                obtain ⟨rfl, _⟩ := hp
                have ha : args.map a.eval = #[β r, u2] := by
                  apply Array.toList_inj.1
                  simpa using h7
                have ht : tys = #[t, t2] := by
                  apply Array.toList_inj.1
                  simpa using h2
                obtain ⟨w', h8, h9⟩ := copy_rel (t' := t2) (ty := o.type) (hr := r :: rs) hT R hd h3 h4 hg hu2 hys
                exact fin' _ w' (by simp [execOp, hop, resolve, invoke, builtin, Sem.run_bind, ha, ht, h8]) h9
              · cases e
            · cases e
          · cases e
        · cases e
      · rename_i av1 av2 h1
        split at e
        · rename_i t t' h2
          obtain ⟨h8, e'⟩ := cond_some e
          obtain rfl := nbeq.1 h8
          have hx := opds_rel R h1
          simp only [AVsRel] at hx
          obtain ⟨u, r, h3, hu, u2, r2, rfl, hu2, rfl⟩ := hx
          obtain ⟨v, w', h5, h6⟩ := append2_rel (ty := o.type) hT R hd hu hu2 e' hr
          have ha : args.map a.eval = #[u, u2] := by
            apply Array.toList_inj.1
            simpa using h3
          have ht : tys = #[t, t] := by
            apply Array.toList_inj.1
            simpa using h2
          refine fin' v w' ?_ h6
          simp [execOp, hop, resolve, invoke, builtin, Sem.run_bind, ha, ht, h5]
        · cases e
      · rename_i av h1
        have hx := opds_rel R h1
        simp only [AVsRel] at hx
        obtain ⟨u, r, h3, hu, rfl⟩ := hx
        have ha : args.map a.eval = #[u] := by
          apply Array.toList_inj.1
          simpa using h3
        split at e
        · rename_i t h10
          have ht : tys = #[t] := by
            apply Array.toList_inj.1
            simpa using h10
          split at e
          · rename_i el _ _ _ h11
            have hut := tdSlice (hT _ _ h11)
            have run : ∀ A n c, u = .slice A n c → (execOp a.eval o).run P w = .ok (.value (.int .i64 (n : Int))) w := by
              intro A n c hu
              subst hu
              simp [execOp, hop, resolve, invoke, builtin, Sem.run_bind, ha, ht, Builtin.len_, run_underlying hut, goInt]
            split at e
            · rename_i q
              split at e
              · rename_i e' d' xs hr'
                cases e
                simp only [AVRel, CVRel] at hu
                obtain ⟨g, hg, hp⟩ := hu
                rw [hr'] at hg
                cases hg
                obtain ⟨rfl, _⟩ := hp
                rcases R.heap _ _ hr' with ⟨hn, he⟩ | ⟨b, cap, l, tail, hbv, _⟩
                · subst he
                  exact fin _ (run none 0 0 hn) rfl (by simp only [AVRel, CVRel]; rfl)
                · exact fin _ (run _ _ _ hbv) rfl (by simp only [AVRel, CVRel])
              · cases e
            · rename_i d' xs n
              cases e
              simp only [AVRel, CVRel] at hu
              cases hu with
              | fz _ _ _ A c hn hc h0 hat => exact fin _ (run _ _ _ rfl) rfl (by simp only [AVRel, CVRel])
            · rename_i n c
              cases e
              simp only [AVRel, CVRel] at hu
              exact fin _ (run _ _ _ hu) rfl (by simp only [AVRel, CVRel])
            · cases e
          · cases e
        · cases e
      · cases e
  all_goals (simp only [aop2, hop] at e; cases e)
end

/-! ### What they depend on -/
theorem frzSl_dep {h h' : Heap} {t : DT} {c : CV} {xs : List t.T} {gs : List Nat} (e : frzSl h t c = some (xs, gs)) (H : ∀ r ∈ gs, h' r = h r) : frzSl h' t c = some (xs, gs) := by
  unfold frzSl at e ⊢
  split at e
  · exact e
  · exact e
  · rename_i r
    split at e
    · rename_i hr
      split at e
      · rename_i hz; cases e; simp only [H r (by simp), hr, hz]
      · cases e
    · rename_i hr
      split at e
      · rename_i hz; cases e; simp only [H r (by simp), hr, hz]
      · cases e
    · cases e
  · rename_i r o n
    split at e
    · rename_i hr
      split at e
      · rename_i hz; cases e; simp only [H r (by simp), hr, hz]
      · cases e
    · cases e
  · rename_i r base lo n lim
    split at e
    · rename_i hr
      split at e
      · rename_i hd
        obtain ⟨hl, e⟩ := cond_some e
        split at e
        · rename_i hz; cases e; simp only [H r (by simp), hr, hd, hl, hz, cond_true]
        · cases e
      · cases e
    · cases e
  · cases e

theorem frzD_dep {h h' : Heap} : ∀ {t : DT} {cs rest : List CV} {x : t.T} {gs : List Nat}, frzD h t cs = some (x, rest, gs) → (∀ r ∈ gs, h' r = h r) → frzD h' t cs = some (x, rest, gs) := by
  intro t
  induction t with
  | sl t ih =>
    intro cs rest x gs e H
    simp only [frzD] at e ⊢
    split at e
    · split at e
      · rename_i hf; cases e; simp only [frzSl_dep hf H]
      · cases e
    · cases e
  | item =>
    intro cs rest x gs e H
    simp only [frzD] at e ⊢
    split at e
    · split at e
      · rename_i h1 h2
        cases e
        simp only [frzSl_dep h1 (fun r hr => H r (by simp [hr])), frzSl_dep h2 (fun r hr => H r (by simp [hr]))]
      · cases e
    · cases e
  | pair a b iha ihb =>
    intro cs rest x gs e H
    simp only [frzD] at e ⊢
    split at e
    · rename_i h1
      split at e
      · rename_i h2
        cases e
        simp only [iha h1 (fun r hr => H r (by simp [hr])), ihb h2 (fun r hr => H r (by simp [hr]))]
      · cases e
    · cases e
  | _ => intro cs rest x gs e H; exact e

theorem seqDat_dep {h h' : Heap} {d : DT} : ∀ {l : List (Nat × AV)} {i : Nat} {xs : List d.T} {gs : List Nat}, seqDat h d i l = some (xs, gs) → (∀ r ∈ gs, h' r = h r) → seqDat h' d i l = some (xs, gs) := by
  intro l
  induction l with
  | nil => intro i xs gs e _; exact e
  | cons p l ih =>
    obtain ⟨j, av⟩ := p
    intro i xs gs e H
    simp only [seqDat] at e ⊢
    have e0 := cond_some e
    rw [e0.1]
    replace e := e0.2
    clear e0
    simp only [cond_true]
    split at e
    · split at e
      · rename_i hf
        split at e
        · rename_i hs
          cases e
          simp only [frzD_dep hf (fun r hr => H r (by simp [hr])), ih hs (fun r hr => H r (by simp [hr]))]
        · cases e
      · cases e
    · cases e

theorem dataOf_dep {h h' : Heap} {d : DT} {x : AV} {xs : List d.T} {rs : List Nat} (e : dataOf h d x = some (xs, rs)) (H : ∀ r ∈ rs, h' r = h r) : dataOf h' d x = some (xs, rs) := by
  unfold dataOf at e ⊢
  split at e
  · rename_i r
    split at e
    · rename_i hr
      split at e
      · rename_i hz; cases e; simp only [H r (by simp), hr, hz]
      · cases e
    · cases e
  · exact e
  · exact e
  · cases e

theorem sliceInts_dep {h h' : Heap} {x : AV} {k : IntKind} {xs : List Int} {rs : List Nat} (e : sliceInts h x = some (k, xs, rs)) (H : ∀ r ∈ rs, h' r = h r) : sliceInts h' x = some (k, xs, rs) := by
  have h1 := sliceInts_in e
  subst h1
  rw [sliceInts_congr (h := h) (h' := h') (fun r hr => H r hr)]
  exact e

theorem capRegs_dep {st st2 : St} : ∀ {xs : List Operand} {rs : List Nat}, capRegs st xs = some rs → (∀ x ∈ xs, opd st2 x = opd st x) → (∀ r ∈ rs, st2.heap r = st.heap r) → capRegs st2 xs = some rs := by
  intro xs
  induction xs with
  | nil => intro rs e _ _; exact e
  | cons x xs ih =>
    intro rs e hO H
    simp only [capRegs] at e ⊢
    split at e
    · rename_i q base room l h1 h2
      obtain ⟨h3, h4⟩ := cond_some e
      cases h4
      have hc : cellsB st2.heap q = cellsB st.heap q := by simp only [cellsB]; rw [H q (by simp)]
      simp only [hO x (by simp), h1, ih h2 (fun y hy => hO y (by simp [hy])) (fun r hr => H r (by simp [hr])), hc, h3, cond_true]
    · cases e

theorem aop2_dep {T : Tab} {o : Oper} {st st2 : St} {rq : Option Req} {δ : Delta} (e : aop2 T o st = some (rq, δ)) (hO : ∀ x ∈ o.op.operands, opd st2 x = opd st x) (H : Same st.heap st2.heap δ.hr) :
    aop2 T o st2 = some (rq, δ) ∧ WIn δ := by
  have nil : δ.hw = [] → WIn δ := fun h r hr => by simp [h] at hr
  cases hop : o.op <;> rw [hop] at hO <;> simp only [Op.operands] at hO <;> simp only [aop2, hop] at e ⊢ <;> try (cases e; done)
  case makeFunc f first caps =>
    split at e
    · rename_i f' rs h1 h2
      cases e
      refine ⟨?_, nil rfl⟩
      rw [capRegs_dep h2 (fun x hx => hO x (by simp at hx ⊢; exact .inr hx)) (fun r hr => H r hr)]
      simp only [h1]
    · cases e
  case convert s d x =>
    rw [hO x (by simp)]
    split at e
    · rename_i av _
      unfold convert2 at e ⊢
      split at e
      · split at e
        · obtain ⟨h1, h2⟩ := cond_some e; cases h2; simp only [h1, cond_true]; exact ⟨trivial, nil rfl⟩
        · cases e
      · obtain ⟨h1, e2⟩ := cond_some e
        simp only [h1, cond_true]
        split at e2
        · rename_i xs rs hb
          cases e2
          refine ⟨?_, nil rfl⟩
          have : bytesOf st2.heap av = some (xs, rs) := by
            unfold bytesOf at hb ⊢
            cases hn : isNilSlice av with
            | true => rw [hn] at hb; exact hb
            | false =>
              rw [hn] at hb
              simp only [cond_false] at hb ⊢
              split at hb
              · rename_i hs
                cases hb
                rw [sliceInts_dep hs (fun r hr => H r hr)]
              · cases hb
          rw [this]
        · cases e2
      · have e0 := cond_some e
        rw [e0.1]
        replace e := e0.2
        clear e0
        simp only [cond_true]
        split at e
        · split at e
          · rename_i hr
            cases e
            refine ⟨?_, fun r hr => by simpa using hr⟩
            rw [H _ (by simp), hr]
          · cases e
        · cases e
      · cases e
    · cases e
  case buildSlice t n ps =>
    rw [partsAV_congr (by simpa using hO)]
    split at e
    · rename_i q _ _ _ _ _ _ _ _
      split at e
      · rename_i te d h3 h4 hfree
        split at e
        · rename_i xs gs h5
          have e0 := cond_some e
          have h6 := e0.1
          replace e := e0.2
          clear e0
          cases e
          refine ⟨?_, fun r hr => ?_⟩
          · simp only [H q (by simp), h3, h4, hfree, seqDat_dep h5 (fun r hr => H r (by simp [hr])), h6, cond_true]
          · simp only [List.map_append, List.map_map, List.mem_append, List.mem_map, Function.comp, List.map_cons, List.map_nil, List.mem_singleton] at hr
            rcases hr with ⟨r', hr', rfl⟩ | rfl
            · simp [hr']
            · simp
        · cases e
      · cases e
    · cases e
  case sliceToArrayPointer d x =>
    rw [hO x (by simp)]
    refine ⟨e, ?_⟩
    split at e
    · obtain ⟨_, h2⟩ := cond_some e; cases h2; exact nil rfl
    · cases e
  case call c =>
    obtain ⟨callee, args, tys⟩ := c
    cases callee with
    | value => cases e
    | invoke => cases e
    | builtin b =>
      simp only [] at e ⊢
      have ho : opds st2 args.toList = opds st args.toList := opds_congr fun x hx => hO x (by simp only [Call.operands]; simpa using hx)
      rw [ho]
      split at e
      · rename_i av x h1
        split at e
        · rename_i r _
          split at e
          · rename_i _ _ _ _ _ k0 _ _ hg
            split at e
            · rename_i h4
              split at e
              · rename_i k2 ys rs hys
                obtain ⟨h5, h6⟩ := cond_some e
                cases h6
                refine ⟨?_, fun r hr => by simp at hr ⊢; exact .inl hr⟩
                have hys' : (bif isNilSlice x then some (k0, ([] : List Int), ([] : List Nat)) else sliceInts st2.heap x) = some (k2, ys, rs) := by
                  cases hn : isNilSlice x with
                  | true => rw [hn] at hys; exact hys
                  | false => rw [hn] at hys; exact sliceInts_dep hys (fun r hr => H r (by simp [hr]))
                rw [H r (by simp), hg]
                simp only [h4, hys', h5, cond_true, *]
              · cases e
            · cases e
          · cases e
        · cases e
      · rename_i s x h1
        split at e
        · rename_i t t' h2
          obtain ⟨h8, e⟩ := cond_some e
          simp only [h8, cond_true]
          unfold append2 at e ⊢
          split at e
          · rename_i q _ _ _ _ _ _
            split at e
            · rename_i te d h3 h4 hfree
              have e0 := cond_some e
              have h6 := e0.1
              replace e := e0.2
              clear e0
              split at e
              · rename_i ys rs hys
                split at e
                · split at e
                  · rename_i _ _ _ _ hr
                    have e0 := cond_some e
                    have h7 := e0.1
                    replace e := e0.2
                    clear e0
                    split at e
                    · rename_i hz
                      cases e
                      refine ⟨?_, fun r hr => by simp at hr ⊢; rcases hr with h | h <;> simp [h]⟩
                      simp only [H q (by simp), h3, h4, hfree, h6, cond_true, dataOf_dep hys (fun r hr => H r (by simp [hr]))]
                      rw [H _ (List.mem_cons_of_mem _ (List.mem_cons_self ..)), hr]
                      simp only [h7, cond_true, hz]
                    · cases e
                  · cases e
                · obtain ⟨h7, h9⟩ := cond_some e
                  cases h9
                  refine ⟨?_, fun r hr => by simp at hr ⊢; exact .inl hr⟩
                  simp only [H q (by simp), h3, h4, hfree, h6, cond_true, dataOf_dep hys (fun r hr => H r (by simp [hr])), h7]
                · cases e
              · cases e
            · cases e
          · cases e
        · cases e
      · rename_i av h1
        split at e
        · split at e
          · split at e
            · split at e
              · rename_i hr
                cases e
                exact ⟨by simp only [H _ (List.mem_singleton.2 rfl), hr, *], nil rfl⟩
              · cases e
            · cases e; exact ⟨rfl, nil rfl⟩
            · cases e; exact ⟨rfl, nil rfl⟩
            · cases e
          · cases e
        · cases e
      · cases e

section
variable {P : Program} {w0 : World} {fp : FP} {nt : Nat} {β : Nat → Value} {st : St} {a : Act} {w : World} {T : Tab} {o : Oper} {Q : Exit → Act → World → Prop}

theorem aopA_sound (hT : TabOk P T) (hdep : 4 ≤ P.depth) (R : Rel P w0 fp nt β st a w) (hd : dstOk nt o.dst = true) {rq : Option Req} {δ : Delta} (e : aopA T o st = some (rq, δ)) (hr : ∀ r, rq = some r → r.p) :
    o.wp P a w (Post P w0 fp nt (st.app o.dst δ)) Q := by
  unfold aopA at e
  cases h0 : isMap T o with
  | true => rw [h0] at e; exact aop3_sound hT R hd e
  | false =>
    rw [h0] at e
    simp only [cond_false] at e
    cases h : isNew T o st with
    | true => rw [h] at e; exact aop2_sound hT R hd e hr
    | false => rw [h] at e; exact aop_sound hT hdep R hd e hr

theorem isNew_dep {st st2 : St} (hO : ∀ x ∈ o.op.operands, opd st2 x = opd st x) : isNew T o st2 = isNew T o st := by
  unfold isNew
  split <;> try rfl
  rename_i x hop
  rw [hop] at hO
  rw [hO x (by simp [Op.operands])]

theorem aopA_dep {st st2 : St} {rq : Option Req} {δ : Delta} (e : aopA T o st = some (rq, δ)) (hO : ∀ x ∈ o.op.operands, opd st2 x = opd st x) (H : Same st.heap st2.heap δ.hr) : aopA T o st2 = some (rq, δ) ∧ WIn δ := by
  unfold aopA at e ⊢
  cases h0 : isMap T o with
  | true => rw [h0] at e; exact aop3_dep e hO H
  | false =>
    rw [h0] at e
    simp only [cond_false] at e ⊢
    rw [isNew_dep hO]
    cases h : isNew T o st with
    | true => rw [h] at e; exact aop2_dep e hO H
    | false => rw [h] at e; exact aop_dep e hO H
end
end Go.Abs
