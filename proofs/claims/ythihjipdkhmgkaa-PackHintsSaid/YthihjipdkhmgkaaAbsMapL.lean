/- Maps from int to int, in blocks of the call's own. -/
import Derived.Test.YthihjipdkhmgkaaAbsOps9L
import Derived.MapKept
set_option linter.unusedVariables false
set_option linter.unusedSimpArgs false
namespace Go.Abs
universe u
open Go.RowKit

def mkEnt (p : Int × Int) : Value × Value := (.int .i64 p.1, .int .i64 p.2)

theorem find_im {a : Int} : ∀ {es : List MapEntry} {xs : List (Int × Int)} (i : Nat), es.map (fun e => (e.key, e.val)) = xs.map mkEnt →
    (Instr.findNow (.int .i64) (.int .i64 a) es i = some none ∧ imGet xs a = 0 ∧ ∀ v, imPut xs a v = xs ++ [(a, v)]) ∨
    ∃ j e, j < xs.length ∧ es[j]? = some e ∧ e.key = .int .i64 a ∧ Instr.findNow (.int .i64) (.int .i64 a) es i = some (some (i + j, .int .i64 (imGet xs a))) ∧ ∀ v, imPut xs a v = xs.set j (a, v) := by
  intro es
  induction es with
  | nil =>
    intro xs i h
    cases xs with
    | nil => exact .inl ⟨rfl, rfl, fun v => rfl⟩
    | cons => simp at h
  | cons e es ih =>
    intro xs i h
    cases xs with
    | nil => simp at h
    | cons p xs =>
      obtain ⟨k, x⟩ := p
      simp only [List.map_cons, List.cons.injEq, mkEnt, Prod.mk.injEq] at h
      obtain ⟨⟨h1, h2⟩, h3⟩ := h
      have hs : Instr.sameNow (.int .i64) (.int .i64 a) e.key = some (a == k) := by
        rw [h1]; simp [Instr.sameNow]
      cases hb : (a == k) with
      | true =>
        have hk : a = k := by simpa using hb
        refine .inr ⟨0, e, by simp, rfl, by rw [h1, hk], ?_, fun v => ?_⟩
        · simp only [Instr.findNow, hs, hb, imGet, cond_true, h2, Nat.add_zero]
        · simp only [imPut, hb, cond_true, List.set_cons_zero]
      | false =>
        rcases ih (xs := xs) (i + 1) h3 with ⟨g1, g2, g3⟩ | ⟨j, e', g1, g2, g3, g4, g5⟩
        · refine .inl ⟨?_, ?_, fun v => ?_⟩
          · simp only [Instr.findNow, hs, hb, g1]
          · simp only [imGet, hb, cond_false, g2]
          · simp only [imPut, hb, cond_false, g3, List.cons_append]
        · refine .inr ⟨j + 1, e', by simp; omega, by simpa using g2, g3, ?_, fun v => ?_⟩
          · simp only [Instr.findNow, hs, hb, g4, imGet, cond_false]
            congr 3
            omega
          · simp only [imPut, hb, cond_false, g5, List.set_cons_succ]

theorem tdMap {P : Program} {t k e : Nat} {s b : Nat} {z : List CV} (h : TIOk P t ⟨.map k e, s, b, z⟩) : P.underlying t = some (.map k e) := by
  obtain ⟨d, hu, hd⟩ := h.desc
  cases d <;> simp only [TDRel] at hd
  obtain ⟨rfl, rfl⟩ := hd
  exact hu

section
variable {P : Program} {w0 : World} {fp : FP} {nt : Nat} {β : Nat → Value} {st : St} {a : Act} {w : World} {T : Tab} {o : Oper} {Q : Exit → Act → World → Prop}

theorem isI64_spec (hT : TabOk P T) {t : Nat} (h : isI64 T t = true) : P.underlying t = some (.int .i64) ∧ ∀ w, (zeroValue t).run P w = .ok (.int .i64 0) w := by
  unfold isI64 at h
  split at h
  · rename_i sz by' h1
    have hk := hT _ _ h1
    obtain ⟨d, hu, hd⟩ := hk.desc
    obtain ⟨i, hi, _, _, zv, hz, hzs⟩ := hk.info
    obtain ⟨i', k', n', hi', hz'⟩ := hk.zint .i64 rfl
    refine ⟨?_, fun w => ?_⟩
    · cases d <;> simp only [TDRel] at hd
      rw [hd] at hu; exact hu
    · have h2 := hzs (fun _ => none) (fun _ => undef) w
      simp only [SegsRel, CVRel] at h2
      obtain ⟨v, r, h3, _, rfl, rfl⟩ := h2
      rw [hi] at hi'
      cases hi'
      rw [hz] at hz'
      cases hz'
      have : Value.int k' n' = .int .i64 0 := by
        simpa [Value.cells] using h3
      rw [this] at hz
      simp [zeroValue, typeInfo, hi, hz]
  · cases h

theorem isMapT_spec (hT : TabOk P T) {t : Nat} (h : isMapT T t = true) : ∃ k e, P.underlying t = some (.map k e) ∧ P.underlying k = some (.int .i64) ∧ ∀ w, (zeroValue e).run P w = .ok (.int .i64 0) w := by
  unfold isMapT at h
  split at h
  · rename_i k e _ _ _ h1
    simp only [Bool.and_eq_true] at h
    exact ⟨k, e, tdMap (hT _ _ h1), (isI64_spec hT h.1).1, (isI64_spec hT h.2).2⟩
  · cases h

theorem imap_get (hT : TabOk P T) {t : Nat} (ht : isMapT T t = true) {b clock : Nat} {es : Array MapEntry} {xs : List (Int × Int)} (hb : w.heap[b]? = some (.map es clock)) (he : es.toList.map (fun e => (e.key, e.val)) = xs.map mkEnt) (x : Int) :
    (Instr.lookup t (.map (some b)) (.int .i64 x) false).run P w = .ok (.int .i64 (imGet xs x)) w := by
  obtain ⟨k, e, h1, h2, h3⟩ := isMapT_spec hT ht
  have hk : MapKept.IsKey (.int .i64) (.int .i64 x) := by simp [MapKept.IsKey]
  rcases find_im (a := x) 0 he with ⟨g1, g2, _⟩ | ⟨j, e', g1, g2, g3, g4, _⟩
  · simp [Instr.lookup, run_underlying h1, MapKept.run_getObj_map hb, MapKept.run_checkKey h2 hk, MapKept.run_findKey h2 g1, h3, g2, Result.andThen]
  · simp [Instr.lookup, run_underlying h1, MapKept.run_getObj_map hb, MapKept.run_checkKey h2 hk, MapKept.run_findKey h2 g4, Result.andThen]

theorem imap_put (hT : TabOk P T) {t : Nat} (ht : isMapT T t = true) {b clock : Nat} {es : Array MapEntry} {xs : List (Int × Int)} (hb : w.heap[b]? = some (.map es clock)) (he : es.toList.map (fun e => (e.key, e.val)) = xs.map mkEnt) (x y : Int) :
    ∃ (es' : Array MapEntry) (clock' : Nat), (Instr.mapUpdate t (.map (some b)) (.int .i64 x) (.int .i64 y)).run P w = .ok () { w with heap := w.heap.setIfInBounds b (.map es' clock') } ∧
      es'.toList.map (fun e => (e.key, e.val)) = (imPut xs x y).map mkEnt := by
  obtain ⟨k, e, h1, h2, h3⟩ := isMapT_spec hT ht
  have hk : MapKept.IsKey (.int .i64) (.int .i64 x) := by simp [MapKept.IsKey]
  rcases find_im (a := x) 0 he with ⟨g1, _, g2⟩ | ⟨j, e', g1, g2, g3, g4, g5⟩
  · refine ⟨es.push ⟨.int .i64 x, .int .i64 y, clock⟩, clock + 1, ?_, ?_⟩
    · simp [Instr.mapUpdate, run_underlying h1, MapKept.run_getObj_map hb, MapKept.run_checkKey h2 hk, MapKept.run_findKey h2 g1, MapKept.run_setObj_map _ hb, Result.andThen]
    · rw [g2, Array.toList_push, List.map_append, List.map_append, he]; rfl
  · have g2' : es[j]? = some e' := by simpa using g2
    refine ⟨es.modify j fun z => { z with key := .int .i64 x, val := .int .i64 y }, clock, ?_, ?_⟩
    · rw [Nat.zero_add] at g4
      simp [Instr.mapUpdate, run_underlying h1, MapKept.run_getObj_map hb, MapKept.run_checkKey h2 hk, MapKept.run_findKey h2 g4, g2', g3, MapKept.run_keyThatStays hk, MapKept.run_setObj_map _ hb, Result.andThen]
    · rw [g5, List.map_set]
      apply List.ext_getElem?
      intro i
      rw [← he, Array.toList_modify, List.getElem?_map, List.getElem?_modify, List.getElem?_set, List.getElem?_map]
      have hj : j < es.toList.length := (List.getElem?_eq_some_iff.1 g2).1
      by_cases hij : j = i
      · subst hij
        rw [if_pos rfl, if_pos (by simpa using hj)]
        simp only [g2, Option.map_some]
        simp [mkEnt]
      · rw [if_neg hij]
        cases es.toList[i]? with
        | none => rfl
        | some z => simp [hij]

/-- A region's block is turned: same shape. -/
theorem Rel.writeO (R : Rel P w0 fp nt β st a w) {r b : Nat} {g g' : Reg} {w' : World} (hg : st.heap r = some g) (hl : g.live) (hbv : blkOf (β r) = some b) (hs : Shape g g') {dst : Option Nat} (hd : dstOk nt dst = true)
    (hos : w'.os = w.os) (htape : w'.tape = w.tape) (hout : w'.output = w.output) (hgrow : w.heap.size ≤ w'.heap.size) (hoth : ∀ b', b' ≠ b → w'.heap[b']? = w.heap[b']?)
    (hreg : ∀ h', Mono st.heap β w h' β w' → RegRel h' β w' (β r) g') :
    Rel P w0 fp nt β { env := putEnv st.env dst (.c (.val undef)), heap := upd st.heap r (some g') } (a.put dst undef) w' := by
  have hob : OwnR st.heap β b := ⟨r, g, hg, hl, hbv⟩
  have hOwn : ∀ b', OwnR (upd st.heap r (some g')) β b' → OwnR st.heap β b' := by
    rintro b' ⟨r', g1, h1, h2, h3⟩
    by_cases e : r' = r
    · subst e; exact ⟨r', g, hg, hl, h3⟩
    · rw [upd_ne _ _ e] at h1; exact ⟨r', g1, h1, h2, h3⟩
  refine R.update (w' := w') hd hos htape hout hgrow (fun _ _ => rfl) (fun b' _ hn => hoth b' (fun e => hn (e ▸ hob))) (fun b' h => .inl (hOwn b' h)) ?_ ?_ ?_ ?_ (fun _ => by simp only [AVRel, CVRel])
  · intro r' g1 h1
    by_cases e : r' = r
    · subst e
      rw [hg] at h1
      cases h1
      exact ⟨g', upd_same _ _ _, hs, fun _ => rfl⟩
    · exact ⟨g1, by rw [upd_ne _ _ e]; exact h1, .refl g1, fun _ => rfl⟩
  · intro q g1 _ h1
    by_cases e : q = r
    · subst e; exact ⟨g, hg⟩
    · rw [upd_ne _ _ e] at h1; exact ⟨g1, h1⟩
  · intro M r' g1 h1
    by_cases e : r' = r
    · subst e
      rw [upd_same] at h1
      cases h1
      exact hreg _ M
    · rw [upd_ne _ _ e] at h1
      refine (R.heap r' g1 h1).mono M fun b' hb' hl1 => hoth b' (fun e' => ?_)
      subst e'
      exact e (R.sep r' r g1 g b' h1 hg hl1 hl hb' hbv)
  · intro r1 r2 g1 g2 b' h1 h2 l1 l2 e1 e2
    have back : ∀ r' g1, upd st.heap r (some g') r' = some g1 → g1.live → ∃ g2, st.heap r' = some g2 ∧ g2.live := by
      intro r' g1 h1 l1
      by_cases e : r' = r
      · subst e; exact ⟨g, hg, hl⟩
      · rw [upd_ne _ _ e] at h1; exact ⟨g1, h1, l1⟩
    obtain ⟨g1', h1', l1'⟩ := back r1 g1 h1 l1
    obtain ⟨g2', h2', l2'⟩ := back r2 g2 h2 l2
    exact R.sep r1 r2 g1' g2' b' h1' h2' l1' l2' e1 e2

theorem aop3_sound (hT : TabOk P T) (R : Rel P w0 fp nt β st a w) (hd : dstOk nt o.dst = true) {rq : Option Req} {δ : Delta} (e : aop3 T o st = some (rq, δ)) :
    o.wp P a w (Post P w0 fp nt (st.app o.dst δ)) Q := by
  have fin : ∀ (v : Value), (execOp a.eval o).run P w = .ok (.value v) w → δ.hw = [] → AVRel st.heap β w δ.av v → o.wp P a w (Post P w0 fp nt (st.app o.dst δ)) Q := by
    intro v h1 h2 h3
    obtain ⟨av, hw, hr'⟩ := δ
    simp only at h2
    subst h2
    exact fin_pure R hd h1 h3
  have full : ∀ {r : Nat} {xs : List (Int × Int)} {u : Value}, AVRel st.heap β w (.c (.full r)) u → st.heap r = some (.imap xs) → ∃ b es clock, u = .map (some b) ∧ β r = .map (some b) ∧ w.heap[b]? = some (.map es clock) ∧ es.toList.map (fun e => (e.key, e.val)) = xs.map mkEnt := by
    intro r xs u hu hg
    simp only [AVRel, CVRel] at hu
    obtain ⟨g, hg', hp⟩ := hu
    rw [hg] at hg'
    cases hg'
    obtain ⟨rfl, _⟩ := hp
    obtain ⟨b, es, clock, h1, h2, h3⟩ := R.heap r _ hg
    exact ⟨b, es, clock, h1, h1, h2, h3⟩
  cases hop : o.op
  case makeMap t rsv =>
    cases rsv with
    | some _ => simp only [aop3, hop] at e; cases e
    | none =>
      simp only [aop3, hop] at e
      obtain ⟨h1, e⟩ := cond_some e
      split at e
      · rename_i q hq
        split at e
        · rename_i hfree
          cases e
          rw [hq] at hd
          have hrun : (execOp a.eval o).run P w = .ok (.value (.map (some w.heap.size))) (w.alloc (.map #[] 0)) := by
            simp only [execOp, hop, Option.map_none]
            rfl
          refine wp_val hrun ⟨upd β q (.map (some w.heap.size)), ?_⟩
          rw [hq]
          refine R.new (bv := .map (some w.heap.size)) hd hfree (fun b hb => by simpa [blkOf] using hb.symm) (fun h' M => ⟨w.heap.size, #[], 0, rfl, ?_, rfl⟩) ?_
          · exact (MapKept.heap_alloc w _).1
          · simp only [AVRel, CVRel]
            refine ⟨.imap [], upd_same _ _ _, ?_⟩
            rw [upd_same]
            exact ⟨rfl, rfl⟩
        · cases e
      · cases e
  case lookup t x i ok =>
    cases ok with
    | true => simp only [aop3, hop] at e; cases e
    | false =>
      simp only [aop3, hop] at e
      obtain ⟨h1, e⟩ := cond_some e
      split at e
      · rename_i r y h2 h3
        split at e
        · rename_i xs hg
          cases e
          obtain ⟨b, es, clock, hu, _, hb, he⟩ := full (opd_rel R h2) hg
          have hi := opd_rel R h3
          simp only [AVRel, CVRel] at hi
          refine fin (.int .i64 (imGet xs y)) ?_ rfl (by simp only [AVRel, CVRel])
          simp only [execOp, hop, hu, hi, Sem.run_bind, imap_get hT h1 hb he y]
          rfl
        · cases e
      · cases e
  case mapUpdate t x i v =>
    simp only [aop3, hop] at e
    obtain ⟨h1, e⟩ := cond_some e
    split at e
    · rename_i r y z h2 h3 h4
      split at e
      · rename_i xs hg
        cases e
        obtain ⟨b, es, clock, hu, hbv, hb, he⟩ := full (opd_rel R h2) hg
        have hi := opd_rel R h3
        simp only [AVRel, CVRel] at hi
        have hv := opd_rel R h4
        simp only [AVRel, CVRel] at hv
        obtain ⟨es', clock', hrun, he'⟩ := imap_put hT h1 hb he y z
        refine wp_skip' (w' := { w with heap := w.heap.setIfInBounds b (.map es' clock') }) ?_ ⟨β, ?_⟩
        · simp only [execOp, hop, hu, hi, hv, Sem.run_bind, hrun]
          rfl
        · refine R.writeO hg trivial (by rw [hbv]; rfl) (by trivial) hd rfl rfl rfl (by simp) (fun b' hne => (MapKept.heap_set hb).2 b' hne) (fun h' M => ?_)
          exact ⟨b, es', clock', hbv, (MapKept.heap_set hb).1, he'⟩
      · cases e
    · cases e
  case call c =>
    obtain ⟨callee, args, tys⟩ := c
    cases callee with
    | value => simp only [aop3, hop] at e; cases e
    | invoke => simp only [aop3, hop] at e; cases e
    | builtin b =>
      cases b <;> simp only [aop3, hop] at e <;> try (cases e; done)
      split at e
      · rename_i r t h1 h2
        obtain ⟨h3, e⟩ := cond_some e
        split at e
        · rename_i xs hg
          cases e
          have hx := opds_rel R h1
          simp only [AVsRel] at hx
          obtain ⟨u, r', h4, hu, rfl⟩ := hx
          have ha : args.map a.eval = #[u] := by
            apply Array.toList_inj.1
            simpa using h4
          have ht : tys = #[t] := by
            apply Array.toList_inj.1
            simpa using h2
          obtain ⟨b, es, clock, rfl, _, hb, he⟩ := full hu hg
          obtain ⟨k, e, h5, _, _⟩ := isMapT_spec hT h3
          have hlen : es.size = xs.length := by simpa using congrArg List.length he
          refine fin (.int .i64 (xs.length : Nat)) ?_ rfl (by simp only [AVRel, CVRel])
          simp [execOp, hop, resolve, invoke, builtin, Sem.run_bind, ha, ht, Builtin.len_, run_underlying h5, MapKept.run_getObj_map hb, goInt, hlen]
        · cases e
      · cases e
  all_goals (simp only [aop3, hop] at e; cases e)
end

theorem aop3_dep {T : Tab} {o : Oper} {st st2 : St} {rq : Option Req} {δ : Delta} (e : aop3 T o st = some (rq, δ)) (hO : ∀ x ∈ o.op.operands, opd st2 x = opd st x) (H : Same st.heap st2.heap δ.hr) :
    aop3 T o st2 = some (rq, δ) ∧ WIn δ := by
  have nil : δ.hw = [] → WIn δ := fun h r hr => by simp [h] at hr
  cases hop : o.op <;> rw [hop] at hO <;> simp only [Op.operands] at hO
  case makeMap t rsv =>
    cases rsv with
    | some _ => simp only [aop3, hop] at e; cases e
    | none =>
      simp only [aop3, hop] at e ⊢
      obtain ⟨h1, e⟩ := cond_some e
      simp only [h1, cond_true]
      split at e
      · rename_i q hq
        split at e
        · rename_i hfree
          cases e
          refine ⟨?_, fun r hr => by simpa using hr⟩
          simp only [H q (by simp), hfree]
        · cases e
      · cases e
  case lookup t x i ok =>
    cases ok with
    | true => simp only [aop3, hop] at e; cases e
    | false =>
      simp only [aop3, hop] at e ⊢
      obtain ⟨h1, e⟩ := cond_some e
      simp only [h1, cond_true]
      rw [hO x (by simp), hO i (by simp)]
      split at e
      · split at e
        · rename_i hg
          cases e
          refine ⟨?_, nil rfl⟩
          simp only [H _ (List.mem_singleton.2 rfl), hg]
        · cases e
      · cases e
  case mapUpdate t x i v =>
    simp only [aop3, hop] at e ⊢
    obtain ⟨h1, e⟩ := cond_some e
    simp only [h1, cond_true]
    rw [hO x (by simp), hO i (by simp), hO v (by simp)]
    split at e
    · split at e
      · rename_i hg
        cases e
        refine ⟨?_, fun r hr => by simpa using hr⟩
        simp only [H _ (List.mem_singleton.2 rfl), hg]
      · cases e
    · cases e
  case call c =>
    obtain ⟨callee, args, tys⟩ := c
    cases callee with
    | value => simp only [aop3, hop] at e; cases e
    | invoke => simp only [aop3, hop] at e; cases e
    | builtin b =>
      have ho : opds st2 args.toList = opds st args.toList := opds_congr fun x hx => hO x (by simp only [Call.operands]; simpa using hx)
      cases b <;> simp only [aop3, hop] at e ⊢ <;> try (cases e; done)
      rw [ho]
      split at e
      · obtain ⟨h1, e⟩ := cond_some e
        simp only [h1, cond_true]
        split at e
        · rename_i hg
          cases e
          refine ⟨?_, nil rfl⟩
          simp only [H _ (List.mem_singleton.2 rfl), hg]
        · cases e
      · cases e
  all_goals (simp only [aop3, hop] at e; cases e)
end Go.Abs
