/- A step as a relation; regions in any order; soundness of a region. -/
import Derived.Test.YthihjipdkhmgkaaAbsOps10L
import Derived.Conc.EntryLaws
import Derived.Conc.MuLone
set_option linter.unusedVariables false
set_option linter.unusedSimpArgs false
namespace Go.Abs
universe u
open Go.RowKit

def NoPan (δ : Delta) : Prop := ∀ t n, δ.av ≠ .pan t n
def panChain (t : Nat) (n : Int) : List PanicEntry := [{ v := .iface t (.agg #[.int .i64 n]), recovered := false }]

structure EntOk (P : Program) (f : Nat) (e : Ent) : Prop where
  nat : ∀ {ρ : Type} (d : Nat) (l : List AV) (h : HeapT) (k : Delta → Option ρ), e.k d l h k = (e.k d l h some).bind k
  dep : e.free = true → ∀ (d : Nat) (l : List AV) (h h' : HeapT) (δ : Delta), e.k d l h some = some δ → Same h h' δ.hr → e.k d l h' some = some δ ∧ WIn δ
  call : ∀ {w0 : World} {fp : FP} {nt : Nat} {β : Nat → Value} {st : St} {a : Act} {w : World} (o : Oper) (d : Nat) (l : List AV) (us : List Value) (δ : Delta) (next : Act → World → Prop) (Q : Exit → Act → World → Prop),
    (execOp a.eval o).run P w = (callFunc f us.toArray).run P w → AVsRel st.heap β w l us → o.dst = some d → Rel P w0 fp nt β st a w → dstOk nt o.dst = true → e.k d l st.heap some = some δ →
    (NoPan δ → ∀ a' w', Post P w0 fp nt (st.app o.dst δ) a' w' → next a' w') → (∀ t n, δ.av = .pan t n → ∀ w', Post P w0 fp nt (st.app none δ) a w' → Q (.panic (panChain t n)) a w') →
    o.wp P a w next Q

def EntsOk (P : Program) (E : Nat → Option Ent) : Prop := ∀ f e, E f = some e → EntOk P f e

structure Ctx (P : Program) where
  T : Tab
  E : Nat → Option Ent
  hT : TabOk P T
  hE : EntsOk P E
  hdep : 4 ≤ P.depth
  hord : P.follows .mixedOrders = true

section
variable {P : Program} (C : Ctx P)

/-- What one operation does, its guard aside. -/
def Acts (o : Oper) (st : St) (δ : Delta) : Prop :=
  match calleeOf o.op with
  | some (f, args) => ∃ e l d, C.E f = some e ∧ opds st args = some l ∧ o.dst = some d ∧ e.k d l st.heap some = some δ
  | none => match cloOf st o.op with
    | some (f, args, caps) => ∃ e l d, C.E f = some e ∧ opds st args = some l ∧ o.dst = some d ∧ e.k d (l ++ capPtrs caps) st.heap some = some δ
    | none => ∃ rq, aopA C.T o st = some (rq, δ) ∧ (∀ r, rq = some r → r.p) ∧ NoPan δ

def freeOp (E : Nat → Option Ent) (o : Oper) : Bool := match o.op with
  | .call { callee := .value (.func f), .. } => (match E f with | some e => e.free | none => false)
  | .call { callee := .value _, .. } => false
  | _ => true

theorem cloOf_free {E : Nat → Option Ent} {o : Oper} (h : freeOp E o = true) (st : St) : cloOf st o.op = none := by
  unfold freeOp at h
  unfold cloOf
  split
  · rename_i t args _ _ ho
    rw [ho] at h
    cases h
  · rfl

/-- Is the operation wanted? -/
def WantsR (all : Array Oper) (o : Oper) (st : St) (b : Bool) : Prop :=
  match o.guard with
  | none => b = true
  | some (j, want) => ∃ g, (all[j]?).bind (·.dst) = some g ∧ ((∃ c, st.env g = some (.c (.bool c)) ∧ b = (c == want)) ∨ ∃ v, st.env g = some (.c (.val v)) ∧ (∀ c, v ≠ .bool c) ∧ b = false)

inductive StepR (all : Array Oper) (o : Oper) (st : St) : Delta → Prop
  | run (δ : Delta) (hw : WantsR all o st true) (ha : Acts C o st δ) : StepR all o st δ
  | skip (hw : WantsR all o st false) : StepR all o st skipAV

def footOf (δ : Delta) : Foot := ⟨δ.hr, δ.hw.map (·.1)⟩

theorem aopK_inv {o : Oper} {st : St} {ρ : Type} {k : Delta → Option ρ} {r : ρ} (e : aopK C.T C.E o st k = some r) : ∃ δ, Acts C o st δ ∧ k δ = some r := by
  unfold aopK at e
  unfold Acts
  split at e
  · rename_i f args hc
    simp only [hc]
    split at e
    · rename_i en l d h1 h2 h3
      rw [(C.hE f en h1).nat] at e
      cases hk : en.k d l st.heap some with
      | none => rw [hk] at e; cases e
      | some δ =>
        rw [hk] at e
        exact ⟨δ, ⟨en, l, d, h1, h2, h3, hk⟩, e⟩
    · cases e
  · rename_i hc
    simp only [hc]
    split at e
    · rename_i f args caps hc2
      simp only [hc2]
      split at e
      · rename_i en l d h1 h2 h3
        rw [(C.hE f en h1).nat] at e
        cases hk : en.k d (l ++ capPtrs caps) st.heap some with
        | none => rw [hk] at e; cases e
        | some δ =>
          rw [hk] at e
          exact ⟨δ, ⟨en, l, d, h1, h2, h3, hk⟩, e⟩
      · cases e
    · rename_i hc2
      simp only [hc2]
      split at e
      · cases e
      · rename_i δ h1
        split at e
        · cases e
        · rename_i h3; exact ⟨δ, ⟨none, h1, by simp, fun t m h => h3 t m h⟩, e⟩
      · rename_i rq δ h1
        have h2 := rq.d
        by_cases hp : rq.p
        · rw [if_pos hp] at e
          split at e
          · cases e
          · rename_i h3; exact ⟨δ, ⟨some rq, h1, (fun r' h' => by cases h'; exact hp), fun t m h => h3 t m h⟩, e⟩
        · rw [if_neg hp] at e; cases e

theorem upd_id {α : Type u} {f : Nat → Option α} {g : Nat} {v : α} (h : f g = some v) : upd f g (some v) = f := by
  funext n
  rw [upd_at]
  split
  · rename_i e; rw [e, h]
  · rfl

theorem afterOp_inv {ρ : Type} {δ : Delta} {n : Option ρ} {p : Nat → Int → Option ρ} {r : ρ} (e : afterOp δ n p = some r) : (NoPan δ ∧ n = some r) ∨ ∃ t m, δ.av = .pan t m ∧ p t m = some r := by
  unfold afterOp at e
  split at e
  · rename_i t m h; exact .inr ⟨t, m, h, e⟩
  · rename_i h; exact .inl ⟨fun t m => h t m, e⟩

theorem execOps_cons {nt : Nat} {all : Array Oper} {ρ : Type} {o : Oper} {rest : List Oper} {st : St} {fs : List Foot} {k : St → List Foot → Option ρ} {kp : Nat → Int → St → List Oper → List Foot → Option ρ} {r : ρ}
    (e : execOps C.T C.E nt all (o :: rest) st fs k kp = some r) :
    dstOk nt o.dst = true ∧ ∃ δ, StepR C all o st δ ∧ ((NoPan δ ∧ execOps C.T C.E nt all rest (st.app o.dst δ) (footOf δ :: fs) k kp = some r) ∨
      ∃ t m, δ.av = .pan t m ∧ kp t m (st.app none δ) rest (footOf δ :: fs) = some r) := by
  simp only [execOps] at e
  obtain ⟨hd, e⟩ := cond_some e
  refine ⟨hd, ?_⟩
  have nopan : NoPan skipAV := fun t m h => by cases h
  split at e
  · rename_i hg
    obtain ⟨δ, h1, h2⟩ := aopK_inv C e
    exact ⟨δ, .run δ (by simp [WantsR, hg]) h1, afterOp_inv h2⟩
  · rename_i j want hg
    split at e
    · cases e
    · rename_i g hj
      split at e
      · rename_i b hb
        split at e
        · rename_i hbw
          subst hbw
          rw [upd_id hb] at e
          obtain ⟨δ, h1, h2⟩ := aopK_inv C e
          refine ⟨δ, .run δ ?_ h1, afterOp_inv h2⟩
          simp only [WantsR, hg]
          exact ⟨g, hj, .inl ⟨b, hb, by simp⟩⟩
        · rename_i hbw
          have hbw' : b = !want := by cases b <;> cases want <;> simp_all
          subst hbw'
          rw [upd_id hb] at e
          refine ⟨skipAV, .skip ?_, .inl ⟨nopan, e⟩⟩
          simp only [WantsR, hg]
          exact ⟨g, hj, .inl ⟨!want, hb, by cases want <;> rfl⟩⟩
      · rename_i v hb
        obtain ⟨hv, e⟩ := cond_some e
        refine ⟨skipAV, .skip ?_, .inl ⟨nopan, e⟩⟩
        simp only [WantsR, hg]
        exact ⟨g, hj, .inr ⟨v, hb, (fun c hc => by subst hc; simp [notBool] at hv), by simp⟩⟩
      · cases e

/-! ### What a step depends on -/
theorem WantsR.dep {all : Array Oper} {o : Oper} {st st2 : St} {b : Bool} (h : WantsR all o st b) (hl : ∀ t, t ∈ o.looksAt all → st2.env t = st.env t) : WantsR all o st2 b := by
  unfold WantsR at *
  split at h
  · exact h
  · rename_i j want hg
    obtain ⟨g, h1, h2⟩ := h
    have hm : st2.env g = st.env g := hl g (by simp [Oper.looksAt, hg, h1])
    exact ⟨g, h1, by rw [hm]; exact h2⟩

theorem opd_dep {all : Array Oper} {o : Oper} {st st2 : St} (hl : ∀ t, t ∈ o.looksAt all → st2.env t = st.env t) {x : Operand} (hx : x ∈ o.op.operands) : opd st2 x = opd st x := by
  cases x with
  | tmp t => exact hl t (List.mem_append_left _ (List.mem_filterMap.2 ⟨.tmp t, by simpa using hx, rfl⟩))
  | const v => rfl
  | global g => rfl
  | func f => rfl

theorem calleeOf_spec {op : Op} {f : Nat} {args : List Operand} (h : calleeOf op = some (f, args)) : ∃ c, op = .call c ∧ c.callee = .value (.func f) ∧ args = c.args.toList := by
  unfold calleeOf at h
  split at h
  · cases h; exact ⟨_, rfl, rfl, rfl⟩
  · cases h

theorem Acts.dep {all : Array Oper} {o : Oper} {st st2 : St} {δ : Delta} (hf : freeOp C.E o = true) (h : Acts C o st δ) (hl : ∀ t, t ∈ o.looksAt all → st2.env t = st.env t) (hs : Same st.heap st2.heap δ.hr) : Acts C o st2 δ ∧ WIn δ := by
  unfold Acts at *
  split at h
  · rename_i f args hc
    obtain ⟨e, l, d, h1, h2, h3, h4⟩ := h
    obtain ⟨c, hop, hcal, rfl⟩ := calleeOf_spec hc
    have ho : opds st2 c.args.toList = opds st c.args.toList := opds_congr fun x hx => opd_dep (all := all) (o := o) hl (by rw [hop]; simp only [Op.operands, Call.operands, hcal]; simp at hx; simp [hx])
    have hfr : e.free = true := by
      unfold freeOp at hf
      rw [hop] at hf
      obtain ⟨callee, as, ats⟩ := c
      simp only at hcal
      subst hcal
      simp only [h1] at hf
      exact hf
    obtain ⟨h5, h6⟩ := (C.hE f e h1).dep hfr _ _ _ st2.heap _ h4 hs
    exact ⟨⟨e, l, d, h1, by rw [ho]; exact h2, h3, h5⟩, h6⟩
  · rename_i hc
    rw [cloOf_free hf] at h
    simp only [cloOf_free hf]
    obtain ⟨rq, h1, h2⟩ := h
    obtain ⟨h3, h4⟩ := aopA_dep h1 (fun x hx => opd_dep (all := all) hl hx) hs
    exact ⟨⟨rq, h3, h2⟩, h4⟩

theorem StepR.dep {all : Array Oper} {o : Oper} {st st2 : St} {δ : Delta} (hf : freeOp C.E o = true) (h : StepR C all o st δ) (hl : ∀ t, t ∈ o.looksAt all → st2.env t = st.env t) (hs : Same st.heap st2.heap δ.hr) : StepR C all o st2 δ ∧ WIn δ := by
  cases h with
  | run δ hw ha =>
    obtain ⟨h1, h2⟩ := ha.dep C hf hl hs
    exact ⟨.run δ (hw.dep hl) h1, h2⟩
  | skip hw => exact ⟨.skip (hw.dep hl), .nil⟩

/-! ### Two independent steps may be turned round -/
theorem heapPut_ne {hw : List (Nat × Reg)} {r : Nat} : ∀ {h : HeapT}, r ∉ hw.map (·.1) → heapPut h hw r = h r := by
  induction hw with
  | nil => exact fun _ => rfl
  | cons p l ih =>
    obtain ⟨q, g⟩ := p
    intro h hr
    simp only [List.map_cons, List.mem_cons, not_or] at hr
    simp only [heapPut]
    rw [ih hr.2, upd_ne _ _ hr.1]

theorem upd_comm {α : Type u} (f : Nat → α) {a b : Nat} (x y : α) (h : a ≠ b) : upd (upd f a x) b y = upd (upd f b y) a x := by
  funext n
  simp only [upd_at]
  by_cases h1 : n = a <;> by_cases h2 : n = b <;> simp_all

theorem heapPut_upd {hw : List (Nat × Reg)} {r : Nat} {g : Option Reg} : ∀ {h : HeapT}, r ∉ hw.map (·.1) → heapPut (upd h r g) hw = upd (heapPut h hw) r g := by
  induction hw with
  | nil => exact fun _ => rfl
  | cons p l ih =>
    obtain ⟨q, g'⟩ := p
    intro h hr
    simp only [List.map_cons, List.mem_cons, not_or] at hr
    simp only [heapPut]
    rw [upd_comm _ _ _ hr.1, ih hr.2]

theorem heapPut_comm {hw hw' : List (Nat × Reg)} : ∀ {h : HeapT}, (∀ r, r ∈ hw.map (·.1) → r ∉ hw'.map (·.1)) → heapPut (heapPut h hw) hw' = heapPut (heapPut h hw') hw := by
  induction hw with
  | nil => exact fun _ => rfl
  | cons p l ih =>
    obtain ⟨q, g'⟩ := p
    intro h hr
    simp only [heapPut]
    rw [ih (fun r h' => hr r (by simp only [List.map_cons, List.mem_cons]; exact .inr h')), heapPut_upd (hr q (by simp))]

theorem memB_iff {n : Nat} : ∀ {l : List Nat}, memB n l = true ↔ n ∈ l := by
  intro l
  induction l with
  | nil => simp [memB]
  | cons x l ih =>
    simp only [memB, Bool.or_eq_true, ih, List.mem_cons]
    exact ⟨fun h => h.imp (fun h => Nat.eq_of_beq_eq_true h) id, fun h => h.imp (fun h => by rw [h]; exact Nat.beq_refl x) id⟩

theorem disj_iff {a b : List Nat} : disj a b = true ↔ ∀ x, x ∈ a → x ∉ b := by
  simp only [disj, List.all_eq_true, Bool.not_eq_true', ← Bool.not_eq_true, memB_iff]

theorem swap {all : Array Oper} {x y : Oper} {st : St} {δx δy : Delta} (fx : freeOp C.E x = true) (fy : freeOp C.E y = true) (hx : StepR C all x st δx) (hy : StepR C all y (st.app x.dst δx) δy) (hi : indepB all x y (footOf δx) (footOf δy) = true) :
    StepR C all y st δy ∧ StepR C all x (st.app y.dst δy) δx ∧ (st.app x.dst δx).app y.dst δy = (st.app y.dst δy).app x.dst δx := by
  simp only [indepB, Bool.and_eq_true, disj_iff, footOf] at hi
  obtain ⟨⟨hap, h1⟩, h2⟩ := hi
  obtain ⟨a1, a2, a3⟩ := Oper.apart_spec hap
  have envx : ∀ t, t ∈ y.looksAt all → st.env t = (st.app x.dst δx).env t := by
    intro t ht
    simp only [St.app, putEnv]
    cases hd : x.dst with
    | none => rfl
    | some d =>
      have : t ≠ d := fun h => a1 d hd (h ▸ ht)
      exact (upd_ne _ _ this).symm
  have heapx : Same (st.app x.dst δx).heap st.heap δy.hr := by
    intro r hr
    simp only [St.app]
    rw [heapPut_ne (fun h => h1 r h hr)]
  obtain ⟨hy', wy⟩ := hy.dep C fy envx heapx
  have envy : ∀ t, t ∈ x.looksAt all → (st.app y.dst δy).env t = st.env t := by
    intro t ht
    simp only [St.app, putEnv]
    cases hd : y.dst with
    | none => rfl
    | some d =>
      have : t ≠ d := fun h => a3 d hd (h ▸ ht)
      exact upd_ne _ _ this
  have heapy : Same st.heap (st.app y.dst δy).heap δx.hr := by
    intro r hr
    simp only [St.app]
    rw [heapPut_ne (fun h => h2 r h hr)]
  obtain ⟨hx', wx⟩ := hx.dep C fx envy heapy
  refine ⟨hy', hx', ?_⟩
  simp only [St.app]
  congr 1
  · cases hdx : x.dst with
    | none => rfl
    | some d =>
      cases hdy : y.dst with
      | none => rfl
      | some d' =>
        simp only [putEnv]
        exact upd_comm _ _ _ (fun h => a2 d hdx (by rw [hdy, h]))
  · exact heapPut_comm (fun r hr hr' => h1 r hr (wy r hr'))

/-! ### The machine's step -/
section
variable {w0 : World} {fp : FP} {nt : Nat} {st st' : St} {a : Act} {w : World} {all : Array Oper} {Q : Exit → Act → World → Prop}

theorem wants_rel {β : Nat → Value} (R : Rel P w0 fp nt β st a w) {o : Oper} {b : Bool} (h : WantsR all o st b) : Region.wanted o (yielded all a.tmps) = b := by
  unfold WantsR at h
  unfold Region.wanted
  split at h
  · rename_i hg; simp [hg, h]
  · rename_i j want hg
    simp only [hg]
    obtain ⟨g, h1, h2⟩ := h
    unfold yielded
    rw [h1]
    simp only [Option.bind_some]
    rcases h2 with ⟨c, hc, rfl⟩ | ⟨v, hv, hn, rfl⟩
    · have := R.env g _ hc
      simp only [AVRel, CVRel, Array.getD_eq_getD_getElem?] at this
      cases ht : a.tmps[g]? with
      | none => rw [ht] at this; cases this
      | some x =>
        rw [ht] at this
        simp only [Option.getD_some] at this
        subst this
        cases c <;> cases want <;> rfl
    · have := R.env g _ hv
      simp only [AVRel, CVRel, Array.getD_eq_getD_getElem?] at this
      cases ht : a.tmps[g]? with
      | none => rfl
      | some x =>
        rw [ht] at this
        simp only [Option.getD_some] at this
        subst this
        split
        · rename_i b hb; cases hb; exact absurd rfl (hn b)
        · rfl

theorem cap_rel {st : St} {β : Nat → Value} {a : Act} {w : World} (R : Rel P w0 fp nt β st a w) {t f : Nat} {caps : List Nat} (h : st.env t = some (.c (.clo f caps))) :
    ∃ vs : List Value, a.tmps.getD t undef = .func (.func f) #[] vs.toArray ∧ AVsRel st.heap β w (capPtrs caps) vs := by
  have h1 := R.env t _ h
  simp only [AVRel, CVRel] at h1
  obtain ⟨vs, hv, hl, H⟩ := h1
  refine ⟨vs, hv, ?_⟩
  clear hv h
  induction caps generalizing vs with
  | nil => cases vs with
    | nil => simp [capPtrs, AVsRel]
    | cons => simp at hl
  | cons r caps ih =>
    cases vs with
    | nil => simp at hl
    | cons v vs =>
      simp only [capPtrs, List.map_cons, AVsRel]
      refine ⟨v, vs, rfl, ?_, ih vs (by simpa using hl) fun i r hi => ?_⟩
      · obtain ⟨u, g, hu, hg, hp⟩ := H 0 r rfl
        cases hu
        simp only [AVRel, CVRel]
        exact ⟨g, hg, hp⟩
      · exact H (i + 1) r (by simpa using hi)

theorem AVsRel.append {h : HeapT} {β : Nat → Value} {w : World} : ∀ {l l' : List AV} {vs vs' : List Value}, AVsRel h β w l vs → AVsRel h β w l' vs' → AVsRel h β w (l ++ l') (vs ++ vs') := by
  intro l
  induction l with
  | nil => intro l' vs vs' h1 h2; simp only [AVsRel] at h1; subst h1; exact h2
  | cons x l ih =>
    intro l' vs vs' h1 h2
    simp only [AVsRel] at h1
    obtain ⟨v, r, rfl, hv, hr⟩ := h1
    simp only [List.cons_append, AVsRel]
    exact ⟨v, r ++ vs', rfl, hv, ih hr h2⟩

theorem cloOf_spec {st : St} {op : Op} {f : Nat} {args : List Operand} {caps : List Nat} (h : cloOf st op = some (f, args, caps)) : ∃ c t, op = .call c ∧ c.callee = .value (.tmp t) ∧ args = c.args.toList ∧ st.env t = some (.c (.clo f caps)) := by
  unfold cloOf at h
  split at h
  · split at h
    · rename_i h1; cases h; exact ⟨_, _, rfl, rfl, rfl, h1⟩
    · cases h
  · cases h

theorem execOp_call_clo {a : Act} {o : Oper} {t f : Nat} {as : Array Operand} {ats : Array TypeId} {vs : Array Value} (hop : o.op = .call { callee := .value (.tmp t), args := as, argTypes := ats }) (hv : a.tmps.getD t undef = .func (.func f) #[] vs) :
    execOp a.eval o = callFunc f (as.map a.eval ++ vs) := by
  have ef : a.eval (.tmp t) = .func (.func f) #[] vs := hv
  unfold execOp
  simp [hop, resolve, Deferred.ofValue, invoke, ef]

theorem step_sound {o : Oper} {δ : Delta} {next : Act → World → Prop} (h : StepR C all o st δ) (hd : dstOk nt o.dst = true) (hp : Post P w0 fp nt st a w)
    (hn : NoPan δ → ∀ a' w', Post P w0 fp nt (st.app o.dst δ) a' w' → next a' w') (hpn : ∀ t n, δ.av = .pan t n → ∀ w', Post P w0 fp nt (st.app none δ) a w' → Q (.panic (panChain t n)) a w') :
    if Region.wanted o (yielded all a.tmps) then o.wp P a w next Q ∨ (o.asks P a w ∧ LetsOut Q) else next (a.put o.dst undef) w := by
  obtain ⟨β, R⟩ := hp
  cases h with
  | run δ hw ha =>
    rw [wants_rel R hw]
    simp only [if_true]
    left
    unfold Acts at ha
    split at ha
    · rename_i f args hc
      obtain ⟨e, l, d, h1, h2, h3, h4⟩ := ha
      obtain ⟨cc, hop, hcc, rfl⟩ := calleeOf_spec hc
      obtain ⟨callee, as, ats⟩ := cc
      simp only at hcc
      subst hcc
      refine (C.hE f e h1).call o d l (as.toList.map a.eval) δ next Q ?_ (opds_rel R h2) h3 R hd h4 hn hpn
      rw [Conc.execOp_call_func (a := a) hop]
      congr 2
      apply Array.toList_inj.1
      simp
    · split at ha
      · rename_i f args caps hc
        obtain ⟨e, l, d, h1, h2, h3, h4⟩ := ha
        obtain ⟨cc, t, hop, hcc, rfl, ht⟩ := cloOf_spec hc
        obtain ⟨callee, as, ats⟩ := cc
        simp only at hcc
        subst hcc
        obtain ⟨vs, hv, hcap⟩ := cap_rel R ht
        refine (C.hE f e h1).call o d (l ++ capPtrs caps) (as.toList.map a.eval ++ vs) δ next Q ?_ ((opds_rel R h2).append hcap) h3 R hd h4 hn hpn
        rw [execOp_call_clo (a := a) hop hv]
        congr 2
        apply Array.toList_inj.1
        simp
      · obtain ⟨rq, h1, h2, h3⟩ := ha
        exact Oper.wp_mono (hn h3) (aopA_sound C.hT C.hdep R hd h1 h2)
  | skip hw =>
    rw [wants_rel R hw]
    simp only [Bool.false_eq_true, if_false]
    exact hn (fun t n h => by cases h) _ _ ⟨β, R.pure hd (by simp only [AVRel, CVRel, undef])⟩

/-! ### A region's operations, with what they do -/
abbrev Ran := Nat × Oper × Delta

def TraceR (all : Array Oper) : St → List Ran → St → Prop
  | st, [], st' => st' = st
  | st, (_, o, δ) :: l, st' => StepR C all o st δ ∧ TraceR all (st.app o.dst δ) l st'

theorem execOps_trace {ρ : Type} : ∀ {ops : List Oper} {st : St} {fs : List Foot} {i : Nat} {k : St → List Foot → Option ρ} {kp : Nat → Int → St → List Oper → List Foot → Option ρ} {r : ρ}, execOps C.T C.E nt all ops st fs k kp = some r →
    (∃ (L : List Ran) (st' : St), L.map (·.2.1) = ops ∧ L.map (·.1) = (List.range' i ops.length) ∧ (∀ x ∈ L, dstOk nt x.2.1.dst = true ∧ NoPan x.2.2) ∧ TraceR C all st L st' ∧ k st' ((L.map fun x => footOf x.2.2).reverse ++ fs) = some r) ∨
    ∃ (L : List Ran) (st' : St) (o : Oper) (δ : Delta) (rest : List Oper) (t : Nat) (m : Int), ops = L.map (·.2.1) ++ o :: rest ∧ L.map (·.1) = List.range' i L.length ∧ (∀ x ∈ L, dstOk nt x.2.1.dst = true ∧ NoPan x.2.2) ∧ dstOk nt o.dst = true ∧ TraceR C all st L st' ∧
      StepR C all o st' δ ∧ δ.av = .pan t m ∧ kp t m (st'.app none δ) rest (footOf δ :: ((L.map fun x => footOf x.2.2).reverse ++ fs)) = some r := by
  intro ops
  induction ops with
  | nil => intro st fs i k kp r e; exact .inl ⟨[], st, rfl, rfl, by simp, rfl, e⟩
  | cons o ops ih =>
    intro st fs i k kp r e
    obtain ⟨hd, δ, hs, h0 | ⟨t, m, hp, h0⟩⟩ := execOps_cons C e
    · obtain ⟨hnp, e'⟩ := h0
      rcases ih (i := i + 1) e' with ⟨L, st', h1, h2, h3, h4, h5⟩ | ⟨L, st', o', δ', rest, t, m, h1, h2, h3, h4, h5, h6, h7, h8⟩
      · refine .inl ⟨(i, o, δ) :: L, st', by simp [h1], by simp [h2, List.range'_succ], ?_, ⟨hs, h4⟩, by simpa using h5⟩
        intro x hx
        rcases List.mem_cons.1 hx with rfl | hx
        · exact ⟨hd, hnp⟩
        · exact h3 x hx
      · refine .inr ⟨(i, o, δ) :: L, st', o', δ', rest, t, m, by simp [h1], by simp [h2, List.range'_succ], ?_, h4, ⟨hs, h5⟩, h6, h7, by simpa using h8⟩
        intro x hx
        rcases List.mem_cons.1 hx with rfl | hx
        · exact ⟨hd, hnp⟩
        · exact h3 x hx
    · exact .inr ⟨[], st, o, δ, ops, t, m, rfl, rfl, by simp, hd, rfl, hs, hp, by simpa using h0⟩

theorem wpOps_trace {is : List Nat} : ∀ {L : List Ran} {st : St} {a : Act} {w : World}, (∀ x ∈ L, all[x.1]? = some x.2.1) → (∀ x ∈ L, dstOk nt x.2.1.dst = true ∧ NoPan x.2.2) → TraceR C all st L st' → Post P w0 fp nt st a w →
    (∀ a w, Post P w0 fp nt st' a w → wpOps P all Q is a w) → wpOps P all Q (L.map (·.1) ++ is) a w := by
  intro L
  induction L with
  | nil => intro st a w _ _ ht hp hq; cases ht; exact hq a w hp
  | cons x L ih =>
    obtain ⟨i, o, δ⟩ := x
    intro st a w hi hd ht hp hq
    have hK : ∀ a w, Post P w0 fp nt (st.app o.dst δ) a w → wpOps P all Q (L.map (·.1) ++ is) a w := fun a w h =>
      ih (fun x hx => hi x (by simp [hx])) (fun x hx => hd x (by simp [hx])) ht.2 h hq
    simp only [List.map_cons, List.cons_append]
    rw [wpOps_cons]
    unfold wpOp
    rw [hi (i, o, δ) (by simp)]
    simp only []
    have hnp := (hd (i, o, δ) (by simp)).2
    exact step_sound C (Q := Q) ht.1 (hd (i, o, δ) (by simp)).1 hp (fun _ => hK) (fun t n h => absurd h (hnp t n))

theorem wpOps_pan {i : Nat} {is : List Nat} {o : Oper} {δ : Delta} {t : Nat} {m : Int} {st : St} {a : Act} {w : World} (hi : all[i]? = some o) (hd : dstOk nt o.dst = true) (hs : StepR C all o st δ) (hpan : δ.av = .pan t m) (hp : Post P w0 fp nt st a w)
    (hq : ∀ w', Post P w0 fp nt (st.app none δ) a w' → Q (.panic (panChain t m)) a w') : wpOps P all Q (i :: is) a w := by
  rw [wpOps_cons]
  unfold wpOp
  rw [hi]
  simp only []
  have hw : Region.wanted o (yielded all a.tmps) = true := by
    obtain ⟨β, R⟩ := hp
    cases hs with
    | run δ hw ha => exact wants_rel R hw
    | skip hw => cases hpan
  have := step_sound C (Q := Q) (next := fun _ _ => False) hs hd hp (fun h => absurd hpan (h t m)) (fun t' m' h w' hp' => by rw [hpan] at h; cases h; exact hq w' hp')
  rw [if_pos hw] at this ⊢
  exact this.imp (Oper.wp_mono (fun _ _ h => h.elim)) id

/-! ### Any order -/
def RanIndep (all : Array Oper) (x y : Ran) : Prop := indepB all x.2.1 y.2.1 (footOf x.2.2) (footOf y.2.2) = true

theorem trace_front : ∀ {pre : List Ran} {st : St} {x : Ran} {post : List Ran}, (∀ y ∈ pre ++ [x], freeOp C.E y.2.1 = true) → TraceR C all st (pre ++ x :: post) st' → (∀ y ∈ pre, RanIndep all y x) →
    StepR C all x.2.1 st x.2.2 ∧ TraceR C all (st.app x.2.1.dst x.2.2) (pre ++ post) st' := by
  intro pre
  induction pre with
  | nil => intro st x post _ h _; exact h
  | cons y pre ih =>
    intro st x post hf h hi
    obtain ⟨hy, h⟩ := h
    obtain ⟨h1, h2⟩ := ih (fun z hz => hf z (by simp at hz ⊢; exact .inr hz)) h (fun z hz => hi z (by simp [hz]))
    obtain ⟨h3, h4, h5⟩ := swap C (hf y (by simp)) (hf x (by simp)) hy h1 (hi y (by simp))
    refine ⟨h3, h4, ?_⟩
    rw [← h5]
    exact h2

/-- what is not yet done is closed: who waits for it is not done either -/
def Closed (all : Array Oper) (listed : Array Bool) : Prop := ∀ (j : Nat) (o : Oper), all[j]? = some o → listed.getD j true = true → ∀ e ∈ o.after, Region.binds .any e = true → listed.getD e.on false = true

theorem waits_iff {o : Oper} {l : List Nat} : waits o l = true ↔ ∃ e ∈ o.after, Region.binds .any e = true ∧ e.on ∈ l := by
  unfold waits
  rw [← Array.any_toList, List.any_eq_true]
  constructor
  · rintro ⟨e, he, h⟩
    simp only [Bool.and_eq_true, memB_iff] at h
    exact ⟨e, by simpa using he, h⟩
  · rintro ⟨e, he, h⟩
    exact ⟨e, by simpa using he, by simp only [Bool.and_eq_true, memB_iff]; exact h⟩

theorem freeOf_spec {x : Oper} {fx : Foot} {U : Nat → Prop} : ∀ {ys : List Oper} {fys : List Foot} {dep : List Nat} {j : Nat}, freeOf all x fx dep j ys fys = true → (∀ d ∈ dep, U d) →
    (∀ (m : Nat) (y : Oper), ys[m]? = some y → (∃ e ∈ y.after, Region.binds .any e = true ∧ U e.on) → U (j + m)) →
    ∀ (m : Nat) (y : Oper) (fy : Foot), ys[m]? = some y → fys[m]? = some fy → (∀ e ∈ y.after, Region.binds .any e = true → ¬ U e.on) → indepB all x y fx fy = true := by
  intro ys
  induction ys with
  | nil => intro fys dep j _ _ _ m y fy hy; simp at hy
  | cons y ys ih =>
    intro fys dep j h hd hc m z fz hz hfz hn
    cases fys with
    | nil => simp at hfz
    | cons fy fys =>
      simp only [freeOf] at h
      have hc' : ∀ (m : Nat) (y : Oper), ys[m]? = some y → (∃ e ∈ y.after, Region.binds .any e = true ∧ U e.on) → U (j + 1 + m) := by
        intro m y hy he
        have := hc (m + 1) y (by simpa using hy) he
        rwa [show j + 1 + m = j + (m + 1) by omega]
      cases hw : waits y dep with
      | true =>
        rw [hw] at h
        simp only [cond_true] at h
        obtain ⟨e, he1, he2, he3⟩ := waits_iff.1 hw
        have hUj : U j := by
          have := hc 0 y (by simp) ⟨e, he1, he2, hd _ he3⟩
          simpa using this
        cases m with
        | zero =>
          simp at hz
          subst hz
          exact absurd (hd _ he3) (hn e he1 he2)
        | succ m =>
          exact ih h (by intro d hd'; rcases List.mem_cons.1 hd' with rfl | h'; exact hUj; exact hd d h') hc' m z fz (by simpa using hz) (by simpa using hfz) hn
      | false =>
        rw [hw] at h
        simp only [cond_false, Bool.and_eq_true] at h
        cases m with
        | zero =>
          simp at hz hfz
          subst hz hfz
          exact h.1
        | succ m =>
          exact ih h.2 hd hc' m z fz (by simpa using hz) (by simpa using hfz) hn

theorem orderOk_spec : ∀ {xs : List Oper} {fs : List Foot} {i : Nat}, orderOk all i xs fs = true →
    (∀ (m : Nat) (x : Oper), xs[m]? = some x → edgesBack (i + m) x = true) ∧ xs.length = fs.length ∧
    ∀ (m : Nat) (x : Oper) (fx : Foot), xs[m]? = some x → fs[m]? = some fx → freeOf all x fx [i + m] (i + m + 1) (xs.drop (m + 1)) (fs.drop (m + 1)) = true := by
  intro xs
  induction xs with
  | nil => intro fs i h; cases fs with
    | nil => simp
    | cons => simp [orderOk] at h
  | cons x xs ih =>
    intro fs i h
    cases fs with
    | nil => simp [orderOk] at h
    | cons fx fs =>
      simp only [orderOk, Bool.and_eq_true] at h
      obtain ⟨⟨h1, h2⟩, h3⟩ := h
      obtain ⟨h4, h5, h6⟩ := ih h3
      refine ⟨?_, by simp [h5], ?_⟩
      · intro m y hy
        cases m with
        | zero => simp at hy; subst hy; exact h1
        | succ m => have := h4 m y (by simpa using hy); rwa [show i + (m + 1) = i + 1 + m by omega]
      · intro m y fy hy hfy
        cases m with
        | zero => simp at hy hfy; subst hy hfy; simpa using h2
        | succ m => have := h6 m y fy (by simpa using hy) (by simpa using hfy); rw [show i + (m + 1) = i + 1 + m by omega]; simpa using this

/-- The remaining list is just the unlisted below B, in text order; those from B on wait for the last one. -/
structure Rest (all : Array Oper) (listed : Array Bool) (L : List Ran) (B : Nat) : Prop where
  mem : ∀ x ∈ L, all[x.1]? = some x.2.1 ∧ listed.getD x.1 true = false
  cov : ∀ i, i < all.size → listed.getD i true = false → (∃ x ∈ L, x.1 = i) ∨ B ≤ i
  tail : ∀ (j : Nat) (o : Oper), B ≤ j → all[j]? = some o → ∃ e ∈ o.after, Region.binds .any e = true ∧ (B ≤ e.on ∨ e.on + 1 = B) ∧ e.on < j
  tl : ∀ j, B ≤ j → j < all.size → listed.getD j true = false
  last : B < all.size → ∃ x ∈ L, x.1 + 1 = B ∧ ¬ NoPan x.2.2
  below : ∀ x ∈ L, x.1 < B
  sorted : (L.map (·.1)).Pairwise (· < ·)
  size : listed.size = all.size
  closed : Closed all listed
  back : ∀ (i : Nat) (o : Oper), all[i]? = some o → edgesBack i o = true
  indep : ∀ (U : Nat → Prop), (∀ (j : Nat) (y : Oper), all[j]? = some y → (∃ e ∈ y.after, Region.binds .any e = true ∧ U e.on) → U j) →
    ∀ x ∈ L, ∀ y ∈ L, x.1 < y.1 → U x.1 → (∀ e ∈ y.2.1.after, Region.binds .any e = true → ¬ U e.on) → RanIndep all x y

theorem ready_iff {listed : Array Bool} {i : Nat} : i ∈ Region.ready .any all listed ↔ ∃ o, all[i]? = some o ∧ listed.getD i true = false ∧ ∀ e ∈ o.after, Region.binds .any e = true → listed.getD e.on false = true := by
  unfold Region.ready
  simp only [List.mem_filter, List.mem_range, Bool.and_eq_true, Bool.not_eq_true']
  constructor
  · rintro ⟨h1, h2, h3⟩
    refine ⟨all[i], by simp [h1], h2, ?_⟩
    rw [Array.getElem?_eq_getElem h1] at h3
    simp only [Option.map_some, Option.getD_some] at h3
    rw [← Array.all_toList, List.all_eq_true] at h3
    intro e he hb
    have := h3 e (by simpa using he)
    simpa [hb] using this
  · rintro ⟨o, h1, h2, h3⟩
    have hi : i < all.size := (Array.getElem?_eq_some_iff.1 h1).1
    refine ⟨hi, h2, ?_⟩
    rw [h1]
    simp only [Option.map_some, Option.getD_some]
    rw [← Array.all_toList, List.all_eq_true]
    intro e he
    cases hb : Region.binds .any e with
    | false => simp
    | true => simpa using h3 e (by simpa using he) hb

theorem Rest.pick {listed : Array Bool} {L : List Ran} {B : Nat} (hr : Rest all listed L B) {i : Nat} (hi : i ∈ Region.ready .any all listed) : ∃ x ∈ L, x.1 = i := by
  obtain ⟨o, h1, h2, h3⟩ := ready_iff.1 hi
  have hisz : i < all.size := (Array.getElem?_eq_some_iff.1 h1).1
  rcases hr.cov i hisz h2 with h | h
  · exact h
  · exfalso
    obtain ⟨e, he, hb, hon, hlt⟩ := hr.tail i o h h1
    have hl := h3 e he hb
    have hsz : e.on < listed.size := by rw [hr.size]; omega
    have key : listed.getD e.on true = true := by
      rw [Array.getD_eq_getD_getElem?, Array.getElem?_eq_getElem hsz] at hl ⊢
      simpa using hl
    rcases hon with h' | h'
    · rw [hr.tl e.on h' (by omega)] at key; cases key
    · obtain ⟨x, hx, hxb, _⟩ := hr.last (by omega)
      have := (hr.mem x hx).2
      rw [show x.1 = e.on by omega] at this
      rw [this] at key; cases key

theorem Rest.nil {listed : Array Bool} {L : List Ran} {B : Nat} (hr : Rest all listed L B) (h0 : Region.ready .any all listed = []) : L = [] := by
  cases L with
  | nil => rfl
  | cons x L =>
    exfalso
    have hx := hr.mem x (by simp)
    have : x.1 ∈ Region.ready .any all listed := by
      rw [ready_iff]
      refine ⟨x.2.1, hx.1, hx.2, fun e he hb => ?_⟩
      have hbk := hr.back _ _ hx.1
      unfold edgesBack at hbk
      rw [← Array.all_toList, List.all_eq_true] at hbk
      have h1 := hbk e (by simpa using he)
      simp only [hb, Bool.not_true, Bool.false_or, nblt] at h1
      have hi : x.1 < all.size := (Array.getElem?_eq_some_iff.1 hx.1).1
      have hlt : e.on < listed.size := by rw [hr.size]; omega
      cases hl : listed.getD e.on true with
      | true =>
        rw [Array.getD_eq_getD_getElem?, Array.getElem?_eq_getElem hlt] at hl ⊢
        simpa using hl
      | false =>
        rcases hr.cov e.on (by omega) hl with ⟨y, hy, hye⟩ | hB
        · rcases List.mem_cons.1 hy with rfl | hy
          · omega
          · have hs := hr.sorted
            simp only [List.map_cons, List.pairwise_cons] at hs
            have := hs.1 y.1 (List.mem_map.2 ⟨y, hy, rfl⟩)
            omega
        · have := hr.below x (by simp)
          omega
    rw [h0] at this
    simp at this

theorem wpAny_trace {B : Nat} {J : St → Prop} : ∀ {n : Nat} {listed : Array Bool} {L : List Ran} {st : St} {a : Act} {w : World}, L.length ≤ n → Rest all listed L B → (∀ x ∈ L, dstOk nt x.2.1.dst = true ∧ freeOp C.E x.2.1 = true) → TraceR C all st L st' → Post P w0 fp nt st a w →
    J st → (∀ x ∈ L, NoPan x.2.2 → ∀ st, J st → J (st.app x.2.1.dst x.2.2)) → (∀ x ∈ L, ∀ t m, x.2.2.av = .pan t m → ∀ st1 a w', J st1 → Post P w0 fp nt (st1.app none x.2.2) a w' → Q (.panic (panChain t m)) a w') →
    ((∀ x ∈ L, NoPan x.2.2) → ∀ a w, Post P w0 fp nt st' a w → Q .normal a w) → wpAny P .any all Q n listed a w := by
  intro n
  induction n with
  | zero =>
    intro listed L st a w hn hr hd ht hp hj hJ hpn hq
    have hL : L = [] := by simpa using hn
    subst hL
    cases ht
    refine ⟨?_, hq (by simp) a w hp⟩
    cases h : Region.ready .any all listed with
    | nil => rfl
    | cons i l =>
      exfalso
      obtain ⟨x, hx, _⟩ := hr.pick (i := i) (by rw [h]; simp)
      simp at hx
  | succ n ih =>
    intro listed L st a w hn hr hd ht hp hj hJ hpn hq
    refine ⟨fun h0 => ?_, fun i hi => ?_⟩
    · have hL := hr.nil h0
      subst hL
      cases ht
      exact hq (by simp) a w hp
    · obtain ⟨o, h1, h2, h3⟩ := ready_iff.1 hi
      have hisz : i < all.size := (Array.getElem?_eq_some_iff.1 h1).1
      obtain ⟨x, hx, hxi⟩ := hr.pick hi
      obtain ⟨pre, post, rfl⟩ := List.append_of_mem hx
      obtain ⟨i', o', δ⟩ := x
      simp only at hxi
      subst hxi
      have ho : o' = o := by
        have := (hr.mem _ hx).1
        simp only at this
        rw [h1] at this
        exact (Option.some.inj this).symm
      subst ho
      have hpre : ∀ y ∈ pre, RanIndep all y (i', o', δ) := by
        intro y hy
        have hym : y ∈ pre ++ (i', o', δ) :: post := by simp [hy]
        have hlt : y.1 < i' := by
          have hs := hr.sorted
          simp only [List.map_append, List.map_cons, List.pairwise_append] at hs
          exact hs.2.2 y.1 (List.mem_map.2 ⟨y, hy, rfl⟩) i' (by simp)
        refine hr.indep (fun j => listed.getD j false = false) ?_ y hym _ hx hlt ?_ ?_
        · intro j z hz ⟨e, he, hb, hu⟩
          have hj : j < all.size := (Array.getElem?_eq_some_iff.1 hz).1
          have hj' : j < listed.size := by rw [hr.size]; exact hj
          cases hl : listed.getD j true with
          | true =>
            have := hr.closed j z hz hl e he hb
            rw [this] at hu
            cases hu
          | false =>
            rw [Array.getD_eq_getD_getElem?, Array.getElem?_eq_getElem hj'] at hl ⊢
            simpa using hl
        · have hl := (hr.mem y hym).2
          have hj : y.1 < listed.size := by rw [hr.size]; exact (Array.getElem?_eq_some_iff.1 (hr.mem y hym).1).1
          show listed.getD y.1 false = false
          rw [Array.getD_eq_getD_getElem?, Array.getElem?_eq_getElem hj] at hl ⊢
          simpa using hl
        · intro e he hb hu
          have := h3 e he hb
          rw [this] at hu
          cases hu
      obtain ⟨h4, h5⟩ := trace_front C (fun y hy => (hd y (by simp at hy ⊢; rcases hy with h | h <;> simp [h])).2) ht hpre
      have hgetD : ∀ j d, (listed.setIfInBounds i' true).getD j d = if i' = j then true else listed.getD j d := by
        intro j d
        have hi' : i' < listed.size := by rw [hr.size]; exact hisz
        rw [Array.getD_eq_getD_getElem?, Array.getD_eq_getD_getElem?]
        by_cases e : i' = j
        · subst e; simp [hi']
        · rw [Array.getElem?_setIfInBounds_ne e, if_neg e]
      have hsrt := hr.sorted
      simp only [List.map_append, List.map_cons] at hsrt
      have hsub : ∀ x ∈ pre ++ post, x ∈ pre ++ (i', o', δ) :: post := fun x hx' => by simp at hx' ⊢; rcases hx' with h | h <;> simp [h]
      have hK : NoPan δ → ∀ a w, Post P w0 fp nt (st.app o'.dst δ) a w → wpAny P .any all Q n (listed.setIfInBounds i' true) a w := by
        intro hnp a w hp'
        refine ih (L := pre ++ post) (by simp at hn ⊢; omega) ?_ (fun x hx => hd x (hsub x hx)) h5 hp' (hJ _ hx hnp st hj) (fun x hx' => hJ x (hsub x hx')) (fun x hx' => hpn x (hsub x hx')) ?_
        rotate_left
        · intro hall
          refine hq fun x hx' => ?_
          simp only [List.mem_append, List.mem_cons] at hx'
          rcases hx' with h | h | h
          · exact hall x (by simp [h])
          · rw [h]; exact hnp
          · exact hall x (by simp [h])
        refine ⟨?_, ?_, hr.tail, ?_, ?_, fun x hx' => hr.below x (hsub x hx'), ?_, by simp [hr.size], ?_, hr.back, ?_⟩
        · intro x hx'
          have hxm := hsub x hx'
          refine ⟨(hr.mem x hxm).1, ?_⟩
          rw [hgetD, if_neg, (hr.mem x hxm).2]
          intro e
          rw [List.pairwise_append] at hsrt
          simp only [List.pairwise_cons] at hsrt
          rcases List.mem_append.1 hx' with h | h
          · have := hsrt.2.2 x.1 (List.mem_map.2 ⟨x, h, rfl⟩) i' (by simp)
            omega
          · have := hsrt.2.1.1 x.1 (List.mem_map.2 ⟨x, h, rfl⟩)
            omega
        · intro j hj hl
          rw [hgetD] at hl
          by_cases e : i' = j
          · rw [if_pos e] at hl; cases hl
          · rw [if_neg e] at hl
            rcases hr.cov j hj hl with ⟨x, hx', hxj⟩ | hB
            · refine .inl ⟨x, ?_, hxj⟩
              simp at hx' ⊢
              rcases hx' with h | h | h
              · exact .inl h
              · subst h; exact absurd hxj e
              · exact .inr h
            · exact .inr hB
        · intro j hB hj
          rw [hgetD, if_neg (by have := hr.below _ hx; simp only at this; omega)]
          exact hr.tl j hB hj
        · intro hB
          obtain ⟨x, hx', hxb, hxp⟩ := hr.last hB
          refine ⟨x, ?_, hxb, hxp⟩
          simp only [List.mem_append, List.mem_cons] at hx' ⊢
          rcases hx' with h | h | h
          · exact .inl h
          · rw [h] at hxp; exact absurd hnp hxp
          · exact .inr h
        · simp only [List.map_append]
          rw [List.pairwise_append] at hsrt ⊢
          simp only [List.pairwise_cons] at hsrt
          exact ⟨hsrt.1, hsrt.2.1.2, fun x hx y hy => hsrt.2.2 x hx y (by simp [hy])⟩
        · intro j y hy hl e he hb
          rw [hgetD]
          by_cases e1 : i' = e.on
          · rw [if_pos e1]
          · rw [if_neg e1]
            rw [hgetD] at hl
            by_cases e2 : i' = j
            · subst e2
              rw [h1] at hy
              cases hy
              exact h3 e he hb
            · rw [if_neg e2] at hl
              exact hr.closed j y hy hl e he hb
        · intro U h6 x hx' y hy'
          exact hr.indep U h6 x (hsub x hx') y (hsub y hy')
      unfold wpOp
      rw [h1]
      simp only []
      by_cases hnp : NoPan δ
      · exact step_sound C (Q := Q) h4 (hd _ hx).1 hp (fun _ => hK hnp) (fun t m h => absurd h (hnp t m))
      · have hw : Region.wanted o' (yielded all a.tmps) = true := by
          obtain ⟨β, R⟩ := hp
          cases h4 with
          | run _ hw ha => exact wants_rel R hw
          | skip hw => exact absurd (fun t m h => by cases h) hnp
        have := step_sound C (Q := Q) (next := fun _ _ => False) h4 (hd _ hx).1 hp (fun h => absurd h hnp) (fun t m h w' hp' => hpn _ hx t m h st a w' hj hp')
        rw [if_pos hw] at this ⊢
        exact this.imp (Oper.wp_mono (fun _ _ h => h.elim)) id

theorem freeOps_spec {E : Nat → Option Ent} {ops : List Oper} (h : freeOps E ops = true) : ∀ o ∈ ops, freeOp E o = true := by
  unfold freeOps at h
  rw [List.all_eq_true] at h
  exact h

theorem waitAll_spec {ix : Nat} : ∀ {rest : List Oper} {dep : List Nat} {j : Nat}, waitAll dep j rest = true → (∀ d ∈ dep, (d = ix ∨ ix < d) ∧ d < j) → ix < j →
    ∀ (m : Nat) (o : Oper), rest[m]? = some o → (∃ e ∈ o.after, Region.binds .any e = true ∧ (ix + 1 ≤ e.on ∨ e.on + 1 = ix + 1) ∧ e.on < j + m) ∧ edgesBack (j + m) o = true := by
  intro rest
  induction rest with
  | nil => intro dep j _ _ _ m o h; simp at h
  | cons y ys ih =>
    intro dep j h hd hj m o ho
    simp only [waitAll, Bool.and_eq_true] at h
    obtain ⟨⟨h1, h2⟩, h3⟩ := h
    cases m with
    | zero =>
      simp at ho
      subst ho
      obtain ⟨e, he, hb, hm⟩ := waits_iff.1 h1
      obtain ⟨h4, h5⟩ := hd _ hm
      exact ⟨⟨e, he, hb, by omega, by omega⟩, h2⟩
    | succ m =>
      have := ih h3 (fun d hd' => by rcases List.mem_cons.1 hd' with rfl | h'; exact ⟨.inr hj, by omega⟩; exact ⟨(hd d h').1, by have := (hd d h').2; omega⟩) (by omega) m o (by simpa using ho)
      rwa [show j + (m + 1) = j + 1 + m by omega]

theorem heapPut_congr {hw : List (Nat × Reg)} {r : Nat} : ∀ {h h' : HeapT}, h r = h' r → heapPut h hw r = heapPut h' hw r := by
  induction hw with
  | nil => exact fun e => e
  | cons p l ih =>
    obtain ⟨q, g⟩ := p
    intro h h' e
    simp only [heapPut]
    refine ih ?_
    simp only [upd_at]
    split
    · rfl
    · exact e
theorem writesOf_mem {f : Foot} : ∀ {fs : List Foot} {r : Nat}, f ∈ fs → r ∈ f.hw → r ∈ writesOf fs := by
  intro fs
  induction fs with
  | nil => intro r h; simp at h
  | cons x xs ih =>
    intro r h hr
    rcases List.mem_cons.1 h with rfl | h
    · exact List.mem_append_left _ hr
    · exact List.mem_append_right _ (ih h hr)
theorem killH_eq {W : List Nat} {h h' : HeapT} (H : ∀ r, r ∉ W → h r = h' r) : killH W h = killH W h' := by
  funext r
  unfold killH
  cases hm : memB r W with
  | true => rfl
  | false => exact H r (fun hr => by rw [memB_iff.2 hr] at hm; cases hm)

theorem dstsOf_mem {o : Oper} {d : Nat} : ∀ {ops : List Oper}, o ∈ ops → o.dst = some d → d ∈ dstsOf ops := by
  intro ops
  induction ops with
  | nil => intro h; simp at h
  | cons x xs ih =>
    intro h hd
    simp only [dstsOf]
    rcases List.mem_cons.1 h with rfl | h
    · rw [hd]; simp
    · cases x.dst with
      | none => exact ih h hd
      | some _ => exact List.mem_cons_of_mem _ (ih h hd)

theorem region_sound {ρ : Type} {id : Nat} {draw : Bool} {κ : St → Option ρ} {κp : Nat → Int → St → Option ρ} {r : ρ}
    (e : execOps C.T C.E nt all all.toList st [] (fun st' fs => bif !draw || (noSel all.toList && freeOps C.E all.toList && orderOk all 0 all.toList fs.reverse) then κ st' else none)
      (fun t e st' rest fs => bif !draw then κp t e st' else bif noSel all.toList && freeOps C.E all.toList && panOk all fs.reverse rest then κp t e { env := forget all.toList st.env, heap := killH (writesOf fs.tail) st'.heap } else none) = some r)
    (hp : Post P w0 fp nt st a w) (hq : ∀ st' a w, κ st' = some r → Post P w0 fp nt st' a w → Q .normal a w)
    (hqp : ∀ t m st' a w, κp t m st' = some r → Post P w0 fp nt st' a w → Q (.panic (panChain t m)) a w) : (Code.region id all draw).wp P Q a w := by
  rcases execOps_trace C (i := 0) e with ⟨L, st', h1, h2, h3, h4, h5⟩ | ⟨L, st', o, δ, rest, t, m, h1, h2, h3, hdo, h4, h5, hpan, h6⟩
  · obtain ⟨h6, h7⟩ := cond_some h5
    have hlen : L.length = all.size := by
      have := congrArg List.length h1
      simpa using this
    have hidx : ∀ (m : Nat) (x : Ran), L[m]? = some x → x.1 = m ∧ all[m]? = some x.2.1 := by
      intro m x hx
      have e1 : (L.map (·.1))[m]? = some x.1 := by simp [hx]
      have e2 : (L.map (·.2.1))[m]? = some x.2.1 := by simp [hx]
      rw [h1] at e2
      rw [h2] at e1
      have hm' : m < all.size := by rw [← hlen]; exact (List.getElem?_eq_some_iff.1 hx).1
      refine ⟨?_, by simpa using e2⟩
      rw [List.getElem?_range' (by simpa using hm')] at e1
      simpa using e1.symm
    have hget : ∀ x ∈ L, all[x.1]? = some x.2.1 := by
      intro x hx
      obtain ⟨m, hm'⟩ := List.mem_iff_getElem?.1 hx
      obtain ⟨e1, e2⟩ := hidx m x hm'
      rw [e1]; exact e2
    cases draw with
    | false =>
      refine wp_region ?_
      have : List.range all.size = L.map (·.1) ++ [] := by rw [h2, List.range_eq_range']; simp
      rw [this]
      exact wpOps_trace C hget h3 h4 hp (fun a w h => hq st' a w h7 h)
    | true =>
      simp only [Bool.not_true, Bool.false_or, Bool.and_eq_true, List.append_nil, List.reverse_reverse] at h6
      refine wp_region_any C.hord ?_
      have hp' : Post P w0 fp nt st a { w with drawn := w.drawn + 1 } := by obtain ⟨β, R⟩ := hp; exact ⟨β, R.drew _⟩
      obtain ⟨g1, g2, g3⟩ := orderOk_spec h6.2
      have hfr := freeOps_spec h6.1.2
      refine wpAny_trace C (L := L) (B := all.size) (J := fun _ => True) (by omega) ?_ (fun x hx => ⟨(h3 x hx).1, hfr _ (by have := hget x hx; exact List.mem_of_getElem? (i := x.1) (by simpa using this))⟩) h4 hp' trivial (fun _ _ _ _ _ => trivial) (fun x hx t m h => absurd h ((h3 x hx).2 t m)) (fun _ a w h => hq st' a w h7 h)
      have hrep : ∀ j d, j < all.size → (Array.replicate all.size false).getD j d = false := by
        intro j d hj
        rw [Array.getD_eq_getD_getElem?, Array.getElem?_replicate, if_pos hj]; rfl
      refine ⟨fun x hx => ⟨hget x hx, hrep _ _ ?_⟩, ?_, ?_, ?_, ?_, ?_, ?_, by simp, ?_, ?_, ?_⟩
      · exact (Array.getElem?_eq_some_iff.1 (hget x hx)).1
      · intro i hi _
        have hi' : i < L.length := by omega
        exact .inl ⟨L[i], List.getElem_mem hi', (hidx i L[i] (by simp [hi'])).1⟩
      · intro j o hj ho
        have := (Array.getElem?_eq_some_iff.1 ho).1
        omega
      · intro j hj hj'; omega
      · intro h; omega
      · intro x hx; exact (Array.getElem?_eq_some_iff.1 (hget x hx)).1
      · rw [h2]
        exact List.pairwise_lt_range'
      · intro j o hj hl
        rw [hrep _ _ (Array.getElem?_eq_some_iff.1 hj).1] at hl
        cases hl
      · intro i o ho
        have := g1 i o (by simpa using ho)
        simpa using this
      · intro U hU x hx y hy hlt hUx hn
        obtain ⟨m, hm'⟩ := List.mem_iff_getElem?.1 hx
        obtain ⟨m2, hm2⟩ := List.mem_iff_getElem?.1 hy
        obtain ⟨e1, e2⟩ := hidx m x hm'
        obtain ⟨e3, e4⟩ := hidx m2 y hm2
        have hf := g3 m x.2.1 (footOf x.2.2) (by simpa using e2) (by simp [hm'])
        rw [Nat.zero_add] at hf
        refine freeOf_spec (U := U) hf ?_ ?_ (m2 - (m + 1)) y.2.1 (footOf y.2.2) ?_ ?_ hn
        · intro d hd
          simp only [List.mem_singleton] at hd
          subst hd
          rw [← e1]; exact hUx
        · intro q z hz he
          have hz' : all[m + 1 + q]? = some z := by simpa [List.getElem?_drop] using hz
          exact hU _ z hz' he
        · rw [List.getElem?_drop, show m + 1 + (m2 - (m + 1)) = m2 by omega]
          simpa using e4
        · rw [List.getElem?_drop, show m + 1 + (m2 - (m + 1)) = m2 by omega]
          simp [hm2]
  · -- an operation panicked
    have hall : ∀ (j : Nat), all[j]? = (L.map (·.2.1) ++ o :: rest)[j]? := fun j => by rw [← h1]; simp
    have hsz : all.size = L.length + 1 + rest.length := by
      have := congrArg List.length h1
      simp at this
      omega
    have hox : all[L.length]? = some o := by rw [hall, List.getElem?_append_right (by simp)]; simp
    have hidx : ∀ (m : Nat) (x : Ran), L[m]? = some x → x.1 = m ∧ all[m]? = some x.2.1 := by
      intro m x hx
      have hm' : m < L.length := (List.getElem?_eq_some_iff.1 hx).1
      have e1 : (L.map (·.1))[m]? = some x.1 := by simp [hx]
      rw [h2] at e1
      refine ⟨?_, ?_⟩
      · rw [List.getElem?_range' hm'] at e1
        simpa using e1.symm
      · rw [hall, List.getElem?_append_left (by simpa using hm')]
        simp [hx]
    have hget : ∀ x ∈ L, all[x.1]? = some x.2.1 := by
      intro x hx
      obtain ⟨m, hm'⟩ := List.mem_iff_getElem?.1 hx
      obtain ⟨e1, e2⟩ := hidx m x hm'
      rw [e1]; exact e2
    cases draw with
    | false =>
      simp only [Bool.not_false, cond_true] at h6
      refine wp_region ?_
      have : List.range all.size = L.map (·.1) ++ L.length :: List.range' (L.length + 1) rest.length := by
        rw [h2, List.range_eq_range', hsz]
        have : L.length + 1 + rest.length = L.length + (1 + rest.length) := by omega
        rw [this, ← List.range'_append_1, Nat.zero_add, Nat.add_comm 1, List.range'_succ]
      rw [this]
      refine wpOps_trace C hget h3 h4 hp fun a w hp' => ?_
      exact wpOps_pan C hox hdo h5 hpan hp' fun w' h => hqp t m _ a w' h6 h
    | true =>
      simp only [Bool.not_true, cond_false, List.append_nil, List.reverse_cons, List.reverse_reverse] at h6
      obtain ⟨h7, h8⟩ := cond_some h6
      simp only [Bool.and_eq_true, panOk, List.length_append, List.length_map, List.length_singleton, Nat.add_sub_cancel] at h7
      obtain ⟨⟨_, hfr⟩, hord, hwait⟩ := h7
      have hfr := freeOps_spec hfr
      refine wp_region_any C.hord ?_
      have hp' : Post P w0 fp nt st a { w with drawn := w.drawn + 1 } := by obtain ⟨β, R⟩ := hp; exact ⟨β, R.drew _⟩
      have htake : all.toList.take (L.length + 1) = L.map (·.2.1) ++ [o] := by
        rw [h1, List.take_append, List.take_of_length_le (by simp)]
        simp
      rw [htake] at hord
      obtain ⟨g1, g2, g3⟩ := orderOk_spec hord
      -- the list with the last one
      let L2 : List Ran := L ++ [(L.length, o, δ)]
      have hget2 : ∀ x ∈ L2, all[x.1]? = some x.2.1 := by
        intro x hx
        rcases List.mem_append.1 hx with h | h
        · exact hget x h
        · rw [List.mem_singleton] at h; subst h; exact hox
      have htr : ∀ {L : List Ran} {st : St}, TraceR C all st L st' → TraceR C all st (L ++ [(L2.length - 1, o, δ)]) (st'.app o.dst δ) := by
        intro L
        induction L with
        | nil => intro st h; cases h; exact ⟨h5, rfl⟩
        | cons x L ih => intro st h; exact ⟨h.1, ih h.2⟩
      have htr2 : TraceR C all st L2 (st'.app o.dst δ) := by have := htr h4; simpa [L2] using this
      have hidx2 : ∀ (m : Nat) (x : Ran), L2[m]? = some x → x.1 = m := by
        intro m x hx
        rcases Nat.lt_or_ge m L.length with h | h
        · rw [List.getElem?_append_left h] at hx; exact (hidx m x hx).1
        · rw [List.getElem?_append_right h] at hx
          have : m - L.length = 0 := by
            rcases Nat.eq_zero_or_pos (m - L.length) with h' | h'
            · exact h'
            · rw [List.getElem?_eq_none (by simp; omega)] at hx; cases hx
          rw [this] at hx
          simp at hx
          subst hx
          simp only
          omega
      have hmap2 : L2.map (·.2.1) = L.map (·.2.1) ++ [o] := by simp [L2]
      have hfoot2 : L2.map (fun x => footOf x.2.2) = L.map (fun x => footOf x.2.2) ++ [footOf δ] := by simp [L2]
      have hlen2 : L2.length = L.length + 1 := by simp [L2]
      have hmapL : L2.map (·.1) = List.range' 0 L2.length := by simp [L2, h2, List.range'_concat]
      let W : List Nat := writesOf (L.map (fun x => footOf x.2.2)).reverse
      have hwr : ∀ x ∈ L, ∀ r, r ∉ W → r ∉ x.2.2.hw.map (·.1) := by
        intro x hx r hr h
        exact hr (writesOf_mem (f := footOf x.2.2) (List.mem_reverse.2 (List.mem_map.2 ⟨x, hx, rfl⟩)) h)
      refine wpAny_trace C (L := L2) (B := L.length + 1) (J := fun s => (∀ r, r ∉ W → s.heap r = st.heap r) ∧ ∀ t, forget all.toList st.env t = forget all.toList s.env t) (by omega) ?_ ?_ htr2 hp' ⟨fun _ _ => rfl, fun _ => rfl⟩ ?_ ?_ ?_
      · have hrep : ∀ j d, j < all.size → (Array.replicate all.size false).getD j d = false := by
          intro j d hj
          rw [Array.getD_eq_getD_getElem?, Array.getElem?_replicate, if_pos hj]; rfl
        refine ⟨fun x hx => ⟨hget2 x hx, hrep _ _ ?_⟩, ?_, ?_, ?_, ?_, ?_, ?_, by simp, ?_, ?_, ?_⟩
        · exact (Array.getElem?_eq_some_iff.1 (hget2 x hx)).1
        · intro i hi _
          rcases Nat.lt_or_ge i L2.length with h | h
          · exact .inl ⟨L2[i], List.getElem_mem h, hidx2 i L2[i] (by simp [h])⟩
          · exact .inr (by omega)
        · intro j z hj hz
          have hz' : rest[j - (L.length + 1)]? = some z := by
            rw [hall, List.getElem?_append_right (by simp; omega)] at hz
            simp only [List.length_map] at hz
            rw [show j - L.length = (j - (L.length + 1)) + 1 by omega] at hz
            simpa using hz
          obtain ⟨⟨e, he, hb, hon, hlt⟩, _⟩ := waitAll_spec (ix := L.length) hwait (by intro d hd; simp at hd; subst hd; exact ⟨.inl rfl, by omega⟩) (by omega) _ z hz'
          exact ⟨e, he, hb, by omega, by omega⟩
        · intro j _ hj'; exact hrep j _ hj'
        · intro _
          exact ⟨(L.length, o, δ), by simp [L2], rfl, fun h => h t m hpan⟩
        · intro x hx
          obtain ⟨m', hm'⟩ := List.mem_iff_getElem?.1 hx
          rw [hidx2 m' x hm']
          have := (List.getElem?_eq_some_iff.1 hm').1
          omega
        · rw [hmapL]; exact List.pairwise_lt_range'
        · intro j o hj hl
          rw [hrep _ _ (Array.getElem?_eq_some_iff.1 hj).1] at hl
          cases hl
        · intro i z hz
          rcases Nat.lt_or_ge i (L.length + 1) with h | h
          · have := g1 i z (by rw [← htake, List.getElem?_take, if_pos h]; simpa using hz)
            simpa using this
          · have hz' : rest[i - (L.length + 1)]? = some z := by
              rw [hall, List.getElem?_append_right (by simp; omega)] at hz
              simp only [List.length_map] at hz
              rw [show i - L.length = (i - (L.length + 1)) + 1 by omega] at hz
              simpa using hz
            have := (waitAll_spec (ix := L.length) hwait (by intro d hd; simp at hd; subst hd; exact ⟨.inl rfl, by omega⟩) (by omega) _ z hz').2
            rwa [show L.length + 1 + (i - (L.length + 1)) = i by omega] at this
        · intro U hU x hx y hy hlt hUx hn
          obtain ⟨m1, hm1⟩ := List.mem_iff_getElem?.1 hx
          obtain ⟨m2, hm2⟩ := List.mem_iff_getElem?.1 hy
          have e1 := hidx2 m1 x hm1
          have e3 := hidx2 m2 y hm2
          have hf := g3 m1 x.2.1 (footOf x.2.2) (by rw [← hmap2]; simp [hm1]) (by rw [← hfoot2]; simp [hm1])
          rw [Nat.zero_add] at hf
          refine freeOf_spec (U := U) hf ?_ ?_ (m2 - (m1 + 1)) y.2.1 (footOf y.2.2) ?_ ?_ hn
          · intro d hd
            simp only [List.mem_singleton] at hd
            subst hd
            rw [← e1]; exact hUx
          · intro q z hz he
            have hz' : all[m1 + 1 + q]? = some z := by
              rw [← hmap2, List.getElem?_drop] at hz
              rw [hmap2, ← htake, List.getElem?_take] at hz
              split at hz
              · simpa using hz
              · cases hz
            exact hU _ z hz' he
          · rw [← hmap2, List.getElem?_drop, show m1 + 1 + (m2 - (m1 + 1)) = m2 by omega]
            simp [hm2]
          · rw [← hfoot2, List.getElem?_drop, show m1 + 1 + (m2 - (m1 + 1)) = m2 by omega]
            simp [hm2]
      · intro x hx
        refine ⟨?_, hfr _ (List.mem_of_getElem? (i := x.1) (by have := hget2 x hx; simpa using this))⟩
        rcases List.mem_append.1 hx with h | h
        · exact (h3 x h).1
        · rw [List.mem_singleton] at h; subst h; exact hdo
      · intro x hx hnp s hs
        have hxL : x ∈ L := by
          rcases List.mem_append.1 hx with h | h
          · exact h
          · rw [List.mem_singleton] at h; subst h; exact absurd hpan (hnp t m)
        refine ⟨fun r hr => by simp only [St.app]; rw [heapPut_ne (hwr x hxL r hr)]; exact hs.1 r hr, fun u => ?_⟩
        rw [hs.2 u]
        simp only [forget, St.app]
        cases hd : x.2.1.dst with
        | none => rfl
        | some d =>
          simp only [putEnv]
          have hdm : d ∈ dstsOf all.toList := dstsOf_mem (List.mem_of_getElem? (i := x.1) (by have := hget2 x hx; simpa using this)) hd
          by_cases hu : u = d
          · subst hu
            rw [memB_iff.2 hdm]
            rfl
          · rw [upd_ne _ _ hu]
      · intro x hx t' m' hx' s a' w' hs hpo
        have hxe : x = (L.length, o, δ) := by
          rcases List.mem_append.1 hx with h | h
          · exact absurd hx' ((h3 x h).2 t' m')
          · exact List.mem_singleton.1 h
        subst hxe
        simp only at hx'
        rw [hpan] at hx'
        cases hx'
        refine hqp t m _ a' w' h8 ?_
        obtain ⟨β, R⟩ := hpo
        have hh : killH W (st'.app none δ).heap = killH W (s.app none δ).heap := by
          have hst : ∀ {L : List Ran} {st st' : St}, (∀ x ∈ L, ∀ r, r ∉ W → r ∉ x.2.2.hw.map (·.1)) → TraceR C all st L st' → ∀ r, r ∉ W → st'.heap r = st.heap r := by
            intro L
            induction L with
            | nil => intro st st' _ h r hr; cases h; rfl
            | cons x L ih =>
              intro st st' hw h r hr
              rw [ih (fun y hy => hw y (by simp [hy])) h.2 r hr]
              simp only [St.app]
              exact heapPut_ne (hw x (by simp) r hr)
          refine killH_eq fun r hr => ?_
          simp only [St.app]
          exact heapPut_congr (by rw [hst hwr h4 r hr, hs.1 r hr])
        refine ⟨β, ?_⟩
        have := (R.killW W).less (env := forget all.toList st.env) (by
          intro u av hu
          rw [hs.2 u] at hu
          simp only [forget] at hu
          cases hb : memB u (dstsOf all.toList) with
          | true => rw [hb] at hu; cases hu
          | false => rw [hb] at hu; exact hu)
        rw [← hh] at this
        exact this
      · intro hno
        exact absurd hpan (hno (L.length, o, δ) (by simp [L2]) t m)
end
end
end Go.Abs
