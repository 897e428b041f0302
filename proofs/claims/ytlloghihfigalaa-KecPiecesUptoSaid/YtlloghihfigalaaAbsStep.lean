/- A step as a relation; regions in any order; soundness of a region. -/
import Derived.Test.YtlloghihfigalaaAbsOps7
import Derived.Test.YtlloghihfigalaaAbsDep
set_option linter.unusedVariables false
set_option linter.unusedSimpArgs false
namespace Go.Abs
universe u
open Go.RowKit

structure EntOk (P : Program) (f : Nat) (e : Ent) : Prop where
  nat : ∀ {ρ : Type} (d : Nat) (l : List AV) (h : HeapT) (k : Delta → Option ρ), e.k d l h k = (e.k d l h some).bind k
  dep : ∀ (d : Nat) (l : List AV) (h h' : HeapT) (δ : Delta), e.k d l h some = some δ → Same h h' δ.hr → e.k d l h' some = some δ ∧ WIn δ
  call : ∀ {w0 : World} {fp : Nat → Prop} {nt : Nat} {β : Nat → Value} {st : St} {a : Act} {w : World} (o : Oper) (d : Nat) (args : List Operand) (l : List AV) (δ : Delta) (Q : Exit → Act → World → Prop),
    calleeOf o.op = some (f, args) → o.dst = some d → opds st args = some l → Rel P w0 fp nt β st a w → dstOk nt o.dst = true → e.k d l st.heap some = some δ →
    o.wp P a w (Post P w0 fp nt (st.app o.dst δ)) Q

def EntsOk (P : Program) (E : Nat → Option Ent) : Prop := ∀ f e, E f = some e → EntOk P f e

structure Ctx (P : Program) where
  T : Tab
  E : Nat → Option Ent
  hT : TabOk P T
  hE : EntsOk P E
  hdep : 4 ≤ P.depth
  hord : P.follows .mixedOrders = true

section
variable {P : Program} (C : Ctx P)

/-- What one operation does, its guard aside. -/
def Acts (o : Oper) (st : St) (δ : Delta) : Prop :=
  match calleeOf o.op with
  | some (f, args) => ∃ e l d, C.E f = some e ∧ opds st args = some l ∧ o.dst = some d ∧ e.k d l st.heap some = some δ
  | none => ∃ rq, aop C.T o st = some (rq, δ) ∧ ∀ r, rq = some r → r.p

/-- Is the operation wanted? -/
def WantsR (all : Array Oper) (o : Oper) (st : St) (b : Bool) : Prop :=
  match o.guard with
  | none => b = true
  | some (j, want) => ∃ g, (all[j]?).bind (·.dst) = some g ∧ ((∃ c, st.env g = some (.c (.bool c)) ∧ b = (c == want)) ∨ ∃ v, st.env g = some (.c (.val v)) ∧ (∀ c, v ≠ .bool c) ∧ b = false)

inductive StepR (all : Array Oper) (o : Oper) (st : St) : Delta → Prop
  | run (δ : Delta) (hw : WantsR all o st true) (ha : Acts C o st δ) : StepR all o st δ
  | skip (hw : WantsR all o st false) : StepR all o st skipAV

def footOf (δ : Delta) : Foot := ⟨δ.hr, δ.hw.map (·.1)⟩

theorem aopK_inv {o : Oper} {st : St} {ρ : Type} {k : Delta → Option ρ} {r : ρ} (e : aopK C.T C.E o st k = some r) : ∃ δ, Acts C o st δ ∧ k δ = some r := by
  unfold aopK at e
  unfold Acts
  split at e
  · rename_i f args hc
    simp only [hc]
    split at e
    · rename_i en l d h1 h2 h3
      rw [(C.hE f en h1).nat] at e
      cases hk : en.k d l st.heap some with
      | none => rw [hk] at e; cases e
      | some δ =>
        rw [hk] at e
        exact ⟨δ, ⟨en, l, d, h1, h2, h3, hk⟩, e⟩
    · cases e
  · rename_i hc
    simp only [hc]
    split at e
    · cases e
    · rename_i δ h1
      exact ⟨δ, ⟨none, h1, by simp⟩, e⟩
    · rename_i rq δ h1
      have h2 := rq.d
      by_cases hp : rq.p
      · rw [if_pos hp] at e
        exact ⟨δ, ⟨some rq, h1, fun r' h' => by cases h'; exact hp⟩, e⟩
      · rw [if_neg hp] at e; cases e

theorem upd_id {α : Type u} {f : Nat → Option α} {g : Nat} {v : α} (h : f g = some v) : upd f g (some v) = f := by
  funext n
  rw [upd_at]
  split
  · rename_i e; rw [e, h]
  · rfl

theorem execOps_cons {nt : Nat} {all : Array Oper} {ρ : Type} {o : Oper} {rest : List Oper} {st : St} {fs : List Foot} {k : St → List Foot → Option ρ} {r : ρ}
    (e : execOps C.T C.E nt all (o :: rest) st fs k = some r) :
    dstOk nt o.dst = true ∧ ∃ δ, StepR C all o st δ ∧ execOps C.T C.E nt all rest (st.app o.dst δ) (footOf δ :: fs) k = some r := by
  simp only [execOps] at e
  obtain ⟨hd, e⟩ := cond_some e
  refine ⟨hd, ?_⟩
  split at e
  · rename_i hg
    obtain ⟨δ, h1, h2⟩ := aopK_inv C e
    exact ⟨δ, .run δ (by simp [WantsR, hg]) h1, h2⟩
  · rename_i j want hg
    split at e
    · cases e
    · rename_i g hj
      split at e
      · rename_i b hb
        split at e
        · rename_i hbw
          subst hbw
          rw [upd_id hb] at e
          obtain ⟨δ, h1, h2⟩ := aopK_inv C e
          refine ⟨δ, .run δ ?_ h1, h2⟩
          simp only [WantsR, hg]
          exact ⟨g, hj, .inl ⟨b, hb, by simp⟩⟩
        · rename_i hbw
          have hbw' : b = !want := by cases b <;> cases want <;> simp_all
          subst hbw'
          rw [upd_id hb] at e
          refine ⟨skipAV, .skip ?_, e⟩
          simp only [WantsR, hg]
          exact ⟨g, hj, .inl ⟨!want, hb, by cases want <;> rfl⟩⟩
      · rename_i v hb
        obtain ⟨hv, e⟩ := cond_some e
        refine ⟨skipAV, .skip ?_, e⟩
        simp only [WantsR, hg]
        exact ⟨g, hj, .inr ⟨v, hb, (fun c hc => by subst hc; simp [notBool] at hv), by simp⟩⟩
      · cases e

/-! ### What a step depends on -/
theorem WantsR.dep {all : Array Oper} {o : Oper} {st st2 : St} {b : Bool} (h : WantsR all o st b) (hl : ∀ t, t ∈ o.looksAt all → st2.env t = st.env t) : WantsR all o st2 b := by
  unfold WantsR at *
  split at h
  · exact h
  · rename_i j want hg
    obtain ⟨g, h1, h2⟩ := h
    have hm : st2.env g = st.env g := hl g (by simp [Oper.looksAt, hg, h1])
    exact ⟨g, h1, by rw [hm]; exact h2⟩

theorem opd_dep {all : Array Oper} {o : Oper} {st st2 : St} (hl : ∀ t, t ∈ o.looksAt all → st2.env t = st.env t) {x : Operand} (hx : x ∈ o.op.operands) : opd st2 x = opd st x := by
  cases x with
  | tmp t => exact hl t (List.mem_append_left _ (List.mem_filterMap.2 ⟨.tmp t, by simpa using hx, rfl⟩))
  | const v => rfl
  | global g => rfl
  | func f => rfl

theorem calleeOf_spec {op : Op} {f : Nat} {args : List Operand} (h : calleeOf op = some (f, args)) : ∃ c, op = .call c ∧ c.callee = .value (.func f) ∧ args = c.args.toList := by
  unfold calleeOf at h
  split at h
  · cases h; exact ⟨_, rfl, rfl, rfl⟩
  · cases h

theorem Acts.dep {all : Array Oper} {o : Oper} {st st2 : St} {δ : Delta} (h : Acts C o st δ) (hl : ∀ t, t ∈ o.looksAt all → st2.env t = st.env t) (hs : Same st.heap st2.heap δ.hr) : Acts C o st2 δ ∧ WIn δ := by
  unfold Acts at *
  split at h
  · rename_i f args hc
    obtain ⟨e, l, d, h1, h2, h3, h4⟩ := h
    obtain ⟨c, hop, hcal, rfl⟩ := calleeOf_spec hc
    have ho : opds st2 c.args.toList = opds st c.args.toList := opds_congr fun x hx => opd_dep (all := all) (o := o) hl (by rw [hop]; simp only [Op.operands, Call.operands, hcal]; simp at hx; simp [hx])
    obtain ⟨h5, h6⟩ := (C.hE f e h1).dep _ _ _ st2.heap _ h4 hs
    exact ⟨⟨e, l, d, h1, by rw [ho]; exact h2, h3, h5⟩, h6⟩
  · obtain ⟨rq, h1, h2⟩ := h
    obtain ⟨h3, h4⟩ := aop_dep h1 (fun x hx => opd_dep (all := all) hl hx) hs
    exact ⟨⟨rq, h3, h2⟩, h4⟩

theorem StepR.dep {all : Array Oper} {o : Oper} {st st2 : St} {δ : Delta} (h : StepR C all o st δ) (hl : ∀ t, t ∈ o.looksAt all → st2.env t = st.env t) (hs : Same st.heap st2.heap δ.hr) : StepR C all o st2 δ ∧ WIn δ := by
  cases h with
  | run δ hw ha =>
    obtain ⟨h1, h2⟩ := ha.dep C hl hs
    exact ⟨.run δ (hw.dep hl) h1, h2⟩
  | skip hw => exact ⟨.skip (hw.dep hl), .nil⟩

/-! ### Two independent steps may be turned round -/
theorem heapPut_ne {hw : List (Nat × Reg)} {r : Nat} : ∀ {h : HeapT}, r ∉ hw.map (·.1) → heapPut h hw r = h r := by
  induction hw with
  | nil => exact fun _ => rfl
  | cons p l ih =>
    obtain ⟨q, g⟩ := p
    intro h hr
    simp only [List.map_cons, List.mem_cons, not_or] at hr
    simp only [heapPut]
    rw [ih hr.2, upd_ne _ _ hr.1]

theorem upd_comm {α : Type u} (f : Nat → α) {a b : Nat} (x y : α) (h : a ≠ b) : upd (upd f a x) b y = upd (upd f b y) a x := by
  funext n
  simp only [upd_at]
  by_cases h1 : n = a <;> by_cases h2 : n = b <;> simp_all

theorem heapPut_upd {hw : List (Nat × Reg)} {r : Nat} {g : Option Reg} : ∀ {h : HeapT}, r ∉ hw.map (·.1) → heapPut (upd h r g) hw = upd (heapPut h hw) r g := by
  induction hw with
  | nil => exact fun _ => rfl
  | cons p l ih =>
    obtain ⟨q, g'⟩ := p
    intro h hr
    simp only [List.map_cons, List.mem_cons, not_or] at hr
    simp only [heapPut]
    rw [upd_comm _ _ _ hr.1, ih hr.2]

theorem heapPut_comm {hw hw' : List (Nat × Reg)} : ∀ {h : HeapT}, (∀ r, r ∈ hw.map (·.1) → r ∉ hw'.map (·.1)) → heapPut (heapPut h hw) hw' = heapPut (heapPut h hw') hw := by
  induction hw with
  | nil => exact fun _ => rfl
  | cons p l ih =>
    obtain ⟨q, g'⟩ := p
    intro h hr
    simp only [heapPut]
    rw [ih (fun r h' => hr r (by simp only [List.map_cons, List.mem_cons]; exact .inr h')), heapPut_upd (hr q (by simp))]

theorem memB_iff {n : Nat} : ∀ {l : List Nat}, memB n l = true ↔ n ∈ l := by
  intro l
  induction l with
  | nil => simp [memB]
  | cons x l ih =>
    simp only [memB, Bool.or_eq_true, ih, List.mem_cons]
    exact ⟨fun h => h.imp (fun h => Nat.eq_of_beq_eq_true h) id, fun h => h.imp (fun h => by rw [h]; exact Nat.beq_refl x) id⟩

theorem disj_iff {a b : List Nat} : disj a b = true ↔ ∀ x, x ∈ a → x ∉ b := by
  simp only [disj, List.all_eq_true, Bool.not_eq_true', ← Bool.not_eq_true, memB_iff]

theorem swap {all : Array Oper} {x y : Oper} {st : St} {δx δy : Delta} (hx : StepR C all x st δx) (hy : StepR C all y (st.app x.dst δx) δy) (hi : indepB all x y (footOf δx) (footOf δy) = true) :
    StepR C all y st δy ∧ StepR C all x (st.app y.dst δy) δx ∧ (st.app x.dst δx).app y.dst δy = (st.app y.dst δy).app x.dst δx := by
  simp only [indepB, Bool.and_eq_true, disj_iff, footOf] at hi
  obtain ⟨⟨hap, h1⟩, h2⟩ := hi
  obtain ⟨a1, a2, a3⟩ := Oper.apart_spec hap
  have envx : ∀ t, t ∈ y.looksAt all → st.env t = (st.app x.dst δx).env t := by
    intro t ht
    simp only [St.app, putEnv]
    cases hd : x.dst with
    | none => rfl
    | some d =>
      have : t ≠ d := fun h => a1 d hd (h ▸ ht)
      exact (upd_ne _ _ this).symm
  have heapx : Same (st.app x.dst δx).heap st.heap δy.hr := by
    intro r hr
    simp only [St.app]
    rw [heapPut_ne (fun h => h1 r h hr)]
  obtain ⟨hy', wy⟩ := hy.dep C envx heapx
  have envy : ∀ t, t ∈ x.looksAt all → (st.app y.dst δy).env t = st.env t := by
    intro t ht
    simp only [St.app, putEnv]
    cases hd : y.dst with
    | none => rfl
    | some d =>
      have : t ≠ d := fun h => a3 d hd (h ▸ ht)
      exact upd_ne _ _ this
  have heapy : Same st.heap (st.app y.dst δy).heap δx.hr := by
    intro r hr
    simp only [St.app]
    rw [heapPut_ne (fun h => h2 r h hr)]
  obtain ⟨hx', wx⟩ := hx.dep C envy heapy
  refine ⟨hy', hx', ?_⟩
  simp only [St.app]
  congr 1
  · cases hdx : x.dst with
    | none => rfl
    | some d =>
      cases hdy : y.dst with
      | none => rfl
      | some d' =>
        simp only [putEnv]
        exact upd_comm _ _ _ (fun h => a2 d hdx (by rw [hdy, h]))
  · exact heapPut_comm (fun r hr hr' => h1 r hr (wy r hr'))

/-! ### The machine's step -/
section
variable {w0 : World} {fp : Nat → Prop} {nt : Nat} {st st' : St} {a : Act} {w : World} {all : Array Oper} {Q : Exit → Act → World → Prop}

theorem wants_rel {β : Nat → Value} (R : Rel P w0 fp nt β st a w) {o : Oper} {b : Bool} (h : WantsR all o st b) : Region.wanted o (yielded all a.tmps) = b := by
  unfold WantsR at h
  unfold Region.wanted
  split at h
  · rename_i hg; simp [hg, h]
  · rename_i j want hg
    simp only [hg]
    obtain ⟨g, h1, h2⟩ := h
    unfold yielded
    rw [h1]
    simp only [Option.bind_some]
    rcases h2 with ⟨c, hc, rfl⟩ | ⟨v, hv, hn, rfl⟩
    · have := R.env g _ hc
      simp only [AVRel, CVRel, Array.getD_eq_getD_getElem?] at this
      cases ht : a.tmps[g]? with
      | none => rw [ht] at this; cases this
      | some x =>
        rw [ht] at this
        simp only [Option.getD_some] at this
        subst this
        cases c <;> cases want <;> rfl
    · have := R.env g _ hv
      simp only [AVRel, CVRel, Array.getD_eq_getD_getElem?] at this
      cases ht : a.tmps[g]? with
      | none => rfl
      | some x =>
        rw [ht] at this
        simp only [Option.getD_some] at this
        subst this
        split
        · rename_i b hb; cases hb; exact absurd rfl (hn b)
        · rfl

theorem step_sound {o : Oper} {δ : Delta} (h : StepR C all o st δ) (hd : dstOk nt o.dst = true) (hp : Post P w0 fp nt st a w) :
    if Region.wanted o (yielded all a.tmps) then o.wp P a w (Post P w0 fp nt (st.app o.dst δ)) Q ∨ (o.asks P a w ∧ LetsOut Q) else Post P w0 fp nt (st.app o.dst δ) (a.put o.dst undef) w := by
  obtain ⟨β, R⟩ := hp
  cases h with
  | run δ hw ha =>
    rw [wants_rel R hw]
    simp only [if_true]
    left
    unfold Acts at ha
    split at ha
    · rename_i f args hc
      obtain ⟨e, l, d, h1, h2, h3, h4⟩ := ha
      exact (C.hE f e h1).call o d args l δ Q hc h3 h2 R hd h4
    · obtain ⟨rq, h1, h2⟩ := ha
      exact aop_sound C.hT C.hdep R hd h1 h2
  | skip hw =>
    rw [wants_rel R hw]
    simp only [Bool.false_eq_true, if_false]
    exact ⟨β, R.pure hd (by simp only [AVRel, CVRel, undef])⟩

/-! ### A region's operations, with what they do -/
abbrev Ran := Nat × Oper × Delta

def TraceR (all : Array Oper) : St → List Ran → St → Prop
  | st, [], st' => st' = st
  | st, (_, o, δ) :: l, st' => StepR C all o st δ ∧ TraceR all (st.app o.dst δ) l st'

theorem execOps_trace {ρ : Type} : ∀ {ops : List Oper} {st : St} {fs : List Foot} {i : Nat} {k : St → List Foot → Option ρ} {r : ρ}, execOps C.T C.E nt all ops st fs k = some r →
    ∃ (L : List Ran) (st' : St), L.map (·.2.1) = ops ∧ L.map (·.1) = (List.range' i ops.length) ∧ (∀ x ∈ L, dstOk nt x.2.1.dst = true) ∧ TraceR C all st L st' ∧ k st' ((L.map fun x => footOf x.2.2).reverse ++ fs) = some r := by
  intro ops
  induction ops with
  | nil => intro st fs i k r e; exact ⟨[], st, rfl, rfl, by simp, rfl, e⟩
  | cons o ops ih =>
    intro st fs i k r e
    obtain ⟨hd, δ, hs, e'⟩ := execOps_cons C e
    obtain ⟨L, st', h1, h2, h3, h4, h5⟩ := ih (i := i + 1) e'
    refine ⟨(i, o, δ) :: L, st', by simp [h1], by simp [h2, List.range'_succ], ?_, ⟨hs, h4⟩, by simpa using h5⟩
    intro x hx
    rcases List.mem_cons.1 hx with rfl | hx
    · exact hd
    · exact h3 x hx

theorem wpOps_trace : ∀ {L : List Ran} {st : St} {a : Act} {w : World}, (∀ x ∈ L, all[x.1]? = some x.2.1) → (∀ x ∈ L, dstOk nt x.2.1.dst = true) → TraceR C all st L st' → Post P w0 fp nt st a w →
    (∀ a w, Post P w0 fp nt st' a w → Q .normal a w) → wpOps P all Q (L.map (·.1)) a w := by
  intro L
  induction L with
  | nil => intro st a w _ _ ht hp hq; cases ht; exact hq a w hp
  | cons x L ih =>
    obtain ⟨i, o, δ⟩ := x
    intro st a w hi hd ht hp hq
    have hK : ∀ a w, Post P w0 fp nt (st.app o.dst δ) a w → wpOps P all Q (L.map (·.1)) a w := fun a w h =>
      ih (fun x hx => hi x (by simp [hx])) (fun x hx => hd x (by simp [hx])) ht.2 h hq
    simp only [List.map_cons]
    rw [wpOps_cons]
    unfold wpOp
    rw [hi (i, o, δ) (by simp)]
    simp only []
    have := step_sound C (Q := Q) ht.1 (hd (i, o, δ) (by simp)) hp
    split
    · rename_i hw
      rw [if_pos hw] at this
      exact this.imp (Oper.wp_mono hK) id
    · rename_i hw
      rw [if_neg hw] at this
      exact hK _ _ this

/-! ### Any order -/
def RanIndep (all : Array Oper) (x y : Ran) : Prop := indepB all x.2.1 y.2.1 (footOf x.2.2) (footOf y.2.2) = true

theorem trace_front : ∀ {pre : List Ran} {st : St} {x : Ran} {post : List Ran}, TraceR C all st (pre ++ x :: post) st' → (∀ y ∈ pre, RanIndep all y x) →
    StepR C all x.2.1 st x.2.2 ∧ TraceR C all (st.app x.2.1.dst x.2.2) (pre ++ post) st' := by
  intro pre
  induction pre with
  | nil => intro st x post h _; exact h
  | cons y pre ih =>
    intro st x post h hi
    obtain ⟨hy, h⟩ := h
    obtain ⟨h1, h2⟩ := ih h (fun z hz => hi z (by simp [hz]))
    obtain ⟨h3, h4, h5⟩ := swap C hy h1 (hi y (by simp))
    refine ⟨h3, h4, ?_⟩
    rw [← h5]
    exact h2

/-- what is not yet done is closed: who waits for it is not done either -/
def Closed (all : Array Oper) (listed : Array Bool) : Prop := ∀ (j : Nat) (o : Oper), all[j]? = some o → listed.getD j true = true → ∀ e ∈ o.after, Region.binds .any e = true → listed.getD e.on false = true

theorem waits_iff {o : Oper} {l : List Nat} : waits o l = true ↔ ∃ e ∈ o.after, Region.binds .any e = true ∧ e.on ∈ l := by
  unfold waits
  rw [← Array.any_toList, List.any_eq_true]
  constructor
  · rintro ⟨e, he, h⟩
    simp only [Bool.and_eq_true, memB_iff] at h
    exact ⟨e, by simpa using he, h⟩
  · rintro ⟨e, he, h⟩
    exact ⟨e, by simpa using he, by simp only [Bool.and_eq_true, memB_iff]; exact h⟩

theorem freeOf_spec {x : Oper} {fx : Foot} {U : Nat → Prop} : ∀ {ys : List Oper} {fys : List Foot} {dep : List Nat} {j : Nat}, freeOf all x fx dep j ys fys = true → (∀ d ∈ dep, U d) →
    (∀ (m : Nat) (y : Oper), ys[m]? = some y → (∃ e ∈ y.after, Region.binds .any e = true ∧ U e.on) → U (j + m)) →
    ∀ (m : Nat) (y : Oper) (fy : Foot), ys[m]? = some y → fys[m]? = some fy → (∀ e ∈ y.after, Region.binds .any e = true → ¬ U e.on) → indepB all x y fx fy = true := by
  intro ys
  induction ys with
  | nil => intro fys dep j _ _ _ m y fy hy; simp at hy
  | cons y ys ih =>
    intro fys dep j h hd hc m z fz hz hfz hn
    cases fys with
    | nil => simp at hfz
    | cons fy fys =>
      simp only [freeOf] at h
      have hc' : ∀ (m : Nat) (y : Oper), ys[m]? = some y → (∃ e ∈ y.after, Region.binds .any e = true ∧ U e.on) → U (j + 1 + m) := by
        intro m y hy he
        have := hc (m + 1) y (by simpa using hy) he
        rwa [show j + 1 + m = j + (m + 1) by omega]
      cases hw : waits y dep with
      | true =>
        rw [hw] at h
        simp only [cond_true] at h
        obtain ⟨e, he1, he2, he3⟩ := waits_iff.1 hw
        have hUj : U j := by
          have := hc 0 y (by simp) ⟨e, he1, he2, hd _ he3⟩
          simpa using this
        cases m with
        | zero =>
          simp at hz
          subst hz
          exact absurd (hd _ he3) (hn e he1 he2)
        | succ m =>
          exact ih h (by intro d hd'; rcases List.mem_cons.1 hd' with rfl | h'; exact hUj; exact hd d h') hc' m z fz (by simpa using hz) (by simpa using hfz) hn
      | false =>
        rw [hw] at h
        simp only [cond_false, Bool.and_eq_true] at h
        cases m with
        | zero =>
          simp at hz hfz
          subst hz hfz
          exact h.1
        | succ m =>
          exact ih h.2 hd hc' m z fz (by simpa using hz) (by simpa using hfz) hn

theorem orderOk_spec : ∀ {xs : List Oper} {fs : List Foot} {i : Nat}, orderOk all i xs fs = true →
    (∀ (m : Nat) (x : Oper), xs[m]? = some x → edgesBack (i + m) x = true) ∧ xs.length = fs.length ∧
    ∀ (m : Nat) (x : Oper) (fx : Foot), xs[m]? = some x → fs[m]? = some fx → freeOf all x fx [i + m] (i + m + 1) (xs.drop (m + 1)) (fs.drop (m + 1)) = true := by
  intro xs
  induction xs with
  | nil => intro fs i h; cases fs with
    | nil => simp
    | cons => simp [orderOk] at h
  | cons x xs ih =>
    intro fs i h
    cases fs with
    | nil => simp [orderOk] at h
    | cons fx fs =>
      simp only [orderOk, Bool.and_eq_true] at h
      obtain ⟨⟨h1, h2⟩, h3⟩ := h
      obtain ⟨h4, h5, h6⟩ := ih h3
      refine ⟨?_, by simp [h5], ?_⟩
      · intro m y hy
        cases m with
        | zero => simp at hy; subst hy; exact h1
        | succ m => have := h4 m y (by simpa using hy); rwa [show i + (m + 1) = i + 1 + m by omega]
      · intro m y fy hy hfy
        cases m with
        | zero => simp at hy hfy; subst hy hfy; simpa using h2
        | succ m => have := h6 m y fy (by simpa using hy) (by simpa using hfy); rw [show i + (m + 1) = i + 1 + m by omega]; simpa using this

/-- The remaining list is just the unlisted, in text order. -/
structure Rest (all : Array Oper) (listed : Array Bool) (L : List Ran) : Prop where
  mem : ∀ x ∈ L, all[x.1]? = some x.2.1 ∧ listed.getD x.1 true = false
  cov : ∀ i, i < all.size → listed.getD i true = false → ∃ x ∈ L, x.1 = i
  sorted : (L.map (·.1)).Pairwise (· < ·)
  size : listed.size = all.size
  closed : Closed all listed
  back : ∀ (i : Nat) (o : Oper), all[i]? = some o → edgesBack i o = true
  indep : ∀ (U : Nat → Prop), (∀ (j : Nat) (y : Oper), all[j]? = some y → (∃ e ∈ y.after, Region.binds .any e = true ∧ U e.on) → U j) →
    ∀ x ∈ L, ∀ y ∈ L, x.1 < y.1 → U x.1 → (∀ e ∈ y.2.1.after, Region.binds .any e = true → ¬ U e.on) → RanIndep all x y

theorem ready_iff {listed : Array Bool} {i : Nat} : i ∈ Region.ready .any all listed ↔ ∃ o, all[i]? = some o ∧ listed.getD i true = false ∧ ∀ e ∈ o.after, Region.binds .any e = true → listed.getD e.on false = true := by
  unfold Region.ready
  simp only [List.mem_filter, List.mem_range, Bool.and_eq_true, Bool.not_eq_true']
  constructor
  · rintro ⟨h1, h2, h3⟩
    refine ⟨all[i], by simp [h1], h2, ?_⟩
    rw [Array.getElem?_eq_getElem h1] at h3
    simp only [Option.map_some, Option.getD_some] at h3
    rw [← Array.all_toList, List.all_eq_true] at h3
    intro e he hb
    have := h3 e (by simpa using he)
    simpa [hb] using this
  · rintro ⟨o, h1, h2, h3⟩
    have hi : i < all.size := (Array.getElem?_eq_some_iff.1 h1).1
    refine ⟨hi, h2, ?_⟩
    rw [h1]
    simp only [Option.map_some, Option.getD_some]
    rw [← Array.all_toList, List.all_eq_true]
    intro e he
    cases hb : Region.binds .any e with
    | false => simp
    | true => simpa using h3 e (by simpa using he) hb

theorem wpAny_trace : ∀ {n : Nat} {listed : Array Bool} {L : List Ran} {st : St} {a : Act} {w : World}, L.length ≤ n → Rest all listed L → (∀ x ∈ L, dstOk nt x.2.1.dst = true) → TraceR C all st L st' → Post P w0 fp nt st a w →
    (∀ a w, Post P w0 fp nt st' a w → Q .normal a w) → wpAny P .any all Q n listed a w := by
  intro n
  -- where nothing is ready, nothing is left
  have hnil : ∀ {listed : Array Bool} {L : List Ran}, Rest all listed L → Region.ready .any all listed = [] → L = [] := by
    intro listed L hr h0
    cases L with
    | nil => rfl
    | cons x L =>
      exfalso
      have hx := hr.mem x (by simp)
      have : x.1 ∈ Region.ready .any all listed := by
        rw [ready_iff]
        refine ⟨x.2.1, hx.1, hx.2, fun e he hb => ?_⟩
        have hbk := hr.back _ _ hx.1
        unfold edgesBack at hbk
        rw [← Array.all_toList, List.all_eq_true] at hbk
        have h1 := hbk e (by simpa using he)
        simp only [hb, Bool.not_true, Bool.false_or, nblt] at h1
        have hi : x.1 < all.size := (Array.getElem?_eq_some_iff.1 hx.1).1
        have hlt : e.on < listed.size := by rw [hr.size]; omega
        cases hl : listed.getD e.on true with
        | true =>
          rw [Array.getD_eq_getD_getElem?, Array.getElem?_eq_getElem hlt] at hl ⊢
          simpa using hl
        | false =>
          obtain ⟨y, hy, hye⟩ := hr.cov e.on (by omega) hl
          rcases List.mem_cons.1 hy with rfl | hy
          · omega
          · have hs := hr.sorted
            simp only [List.map_cons, List.pairwise_cons] at hs
            have := hs.1 y.1 (List.mem_map.2 ⟨y, hy, rfl⟩)
            omega
      rw [h0] at this
      simp at this
  induction n with
  | zero =>
    intro listed L st a w hn hr hd ht hp hq
    have hL : L = [] := by simpa using hn
    subst hL
    cases ht
    refine ⟨?_, hq a w hp⟩
    cases h : Region.ready .any all listed with
    | nil => rfl
    | cons i l =>
      exfalso
      have hi : i ∈ Region.ready .any all listed := by rw [h]; simp
      obtain ⟨o, h1, h2, _⟩ := ready_iff.1 hi
      obtain ⟨x, hx, _⟩ := hr.cov i (Array.getElem?_eq_some_iff.1 h1).1 h2
      simp at hx
  | succ n ih =>
    intro listed L st a w hn hr hd ht hp hq
    refine ⟨fun h0 => ?_, fun i hi => ?_⟩
    · have hL := hnil hr h0
      subst hL
      cases ht
      exact hq a w hp
    · obtain ⟨o, h1, h2, h3⟩ := ready_iff.1 hi
      have hisz : i < all.size := (Array.getElem?_eq_some_iff.1 h1).1
      obtain ⟨x, hx, hxi⟩ := hr.cov i hisz h2
      obtain ⟨pre, post, rfl⟩ := List.append_of_mem hx
      obtain ⟨i', o', δ⟩ := x
      simp only at hxi
      subst hxi
      have ho : o' = o := by
        have := (hr.mem _ hx).1
        simp only at this
        rw [h1] at this
        exact (Option.some.inj this).symm
      subst ho
      -- the unlisted ones are closed under waiting
      have hU : ∀ (j : Nat) (y : Oper), all[j]? = some y → (∃ e ∈ y.after, Region.binds .any e = true ∧ listed.getD e.on false = false) → listed.getD j true = false ∨ listed.getD j true = true := by
        intro j y hy _
        cases listed.getD j true <;> simp
      have hpre : ∀ y ∈ pre, RanIndep all y (i', o', δ) := by
        intro y hy
        have hym : y ∈ pre ++ (i', o', δ) :: post := by simp [hy]
        have hlt : y.1 < i' := by
          have hs := hr.sorted
          simp only [List.map_append, List.map_cons, List.pairwise_append] at hs
          exact hs.2.2 y.1 (List.mem_map.2 ⟨y, hy, rfl⟩) i' (by simp)
        refine hr.indep (fun j => listed.getD j false = false) ?_ y hym _ hx hlt ?_ ?_
        · intro j z hz ⟨e, he, hb, hu⟩
          have hj : j < all.size := (Array.getElem?_eq_some_iff.1 hz).1
          have hj' : j < listed.size := by rw [hr.size]; exact hj
          cases hl : listed.getD j true with
          | true =>
            have := hr.closed j z hz hl e he hb
            rw [this] at hu
            cases hu
          | false =>
            rw [Array.getD_eq_getD_getElem?, Array.getElem?_eq_getElem hj'] at hl ⊢
            simpa using hl
        · have hl := (hr.mem y hym).2
          have hj : y.1 < listed.size := by rw [hr.size]; exact (Array.getElem?_eq_some_iff.1 (hr.mem y hym).1).1
          show listed.getD y.1 false = false
          rw [Array.getD_eq_getD_getElem?, Array.getElem?_eq_getElem hj] at hl ⊢
          simpa using hl
        · intro e he hb hu
          have := h3 e he hb
          rw [this] at hu
          cases hu
      obtain ⟨h4, h5⟩ := trace_front C ht hpre
      have hgetD : ∀ j d, (listed.setIfInBounds i' true).getD j d = if i' = j then true else listed.getD j d := by
        intro j d
        have hi' : i' < listed.size := by rw [hr.size]; exact hisz
        rw [Array.getD_eq_getD_getElem?, Array.getD_eq_getD_getElem?]
        by_cases e : i' = j
        · subst e; simp [hi']
        · rw [Array.getElem?_setIfInBounds_ne e, if_neg e]
      have hsrt := hr.sorted
      simp only [List.map_append, List.map_cons] at hsrt
      have hK : ∀ a w, Post P w0 fp nt (st.app o'.dst δ) a w → wpAny P .any all Q n (listed.setIfInBounds i' true) a w := by
        intro a w hp'
        refine ih (L := pre ++ post) (by simp at hn ⊢; omega) ?_ (fun x hx => hd x (by simp at hx ⊢; rcases hx with h | h <;> simp [h])) h5 hp' hq
        refine ⟨?_, ?_, ?_, by simp [hr.size], ?_, hr.back, ?_⟩
        · intro x hx'
          have hxm : x ∈ pre ++ (i', o', δ) :: post := by simp at hx' ⊢; rcases hx' with h | h <;> simp [h]
          refine ⟨(hr.mem x hxm).1, ?_⟩
          rw [hgetD, if_neg, (hr.mem x hxm).2]
          intro e
          rw [List.pairwise_append] at hsrt
          simp only [List.pairwise_cons] at hsrt
          rcases List.mem_append.1 hx' with h | h
          · have := hsrt.2.2 x.1 (List.mem_map.2 ⟨x, h, rfl⟩) i' (by simp)
            omega
          · have := hsrt.2.1.1 x.1 (List.mem_map.2 ⟨x, h, rfl⟩)
            omega
        · intro j hj hl
          rw [hgetD] at hl
          by_cases e : i' = j
          · rw [if_pos e] at hl; cases hl
          · rw [if_neg e] at hl
            obtain ⟨x, hx', hxj⟩ := hr.cov j hj hl
            refine ⟨x, ?_, hxj⟩
            simp at hx' ⊢
            rcases hx' with h | h | h
            · exact .inl h
            · subst h; exact absurd hxj e
            · exact .inr h
        · simp only [List.map_append]
          rw [List.pairwise_append] at hsrt ⊢
          simp only [List.pairwise_cons] at hsrt
          exact ⟨hsrt.1, hsrt.2.1.2, fun x hx y hy => hsrt.2.2 x hx y (by simp [hy])⟩
        · intro j y hy hl e he hb
          rw [hgetD]
          by_cases e1 : i' = e.on
          · rw [if_pos e1]
          · rw [if_neg e1]
            rw [hgetD] at hl
            by_cases e2 : i' = j
            · subst e2
              rw [h1] at hy
              cases hy
              exact h3 e he hb
            · rw [if_neg e2] at hl
              exact hr.closed j y hy hl e he hb
        · intro U h6 x hx' y hy'
          exact hr.indep U h6 x (by simp at hx' ⊢; rcases hx' with h | h <;> simp [h]) y (by simp at hy' ⊢; rcases hy' with h | h <;> simp [h])
      unfold wpOp
      rw [h1]
      simp only []
      have := step_sound C (Q := Q) h4 (hd _ hx) hp
      simp only at this
      split
      · rename_i hw
        rw [if_pos hw] at this
        exact this.imp (Oper.wp_mono hK) id
      · rename_i hw
        rw [if_neg hw] at this
        exact hK _ _ this

theorem region_sound {ρ : Type} {id : Nat} {draw : Bool} {κ : St → Option ρ} {r : ρ} (e : execOps C.T C.E nt all all.toList st [] (fun st' fs => bif !draw || (noSel all.toList && orderOk all 0 all.toList fs.reverse) then κ st' else none) = some r)
    (hp : Post P w0 fp nt st a w) (hq : ∀ st' a w, κ st' = some r → Post P w0 fp nt st' a w → Q .normal a w) : (Code.region id all draw).wp P Q a w := by
  obtain ⟨L, st', h1, h2, h3, h4, h5⟩ := execOps_trace C (i := 0) e
  obtain ⟨h6, h7⟩ := cond_some h5
  have hlen : L.length = all.size := by
    have := congrArg List.length h1
    simpa using this
  have hidx : ∀ (m : Nat) (x : Ran), L[m]? = some x → x.1 = m ∧ all[m]? = some x.2.1 := by
    intro m x hx
    have e1 : (L.map (·.1))[m]? = some x.1 := by simp [hx]
    have e2 : (L.map (·.2.1))[m]? = some x.2.1 := by simp [hx]
    rw [h1] at e2
    rw [h2] at e1
    have hm' : m < all.size := by rw [← hlen]; exact (List.getElem?_eq_some_iff.1 hx).1
    refine ⟨?_, by simpa using e2⟩
    rw [List.getElem?_range' (by simpa using hm')] at e1
    simpa using e1.symm
  have hget : ∀ x ∈ L, all[x.1]? = some x.2.1 := by
    intro x hx
    obtain ⟨m, hm'⟩ := List.mem_iff_getElem?.1 hx
    obtain ⟨e1, e2⟩ := hidx m x hm'
    rw [e1]; exact e2
  cases draw with
  | false =>
    refine wp_region ?_
    have : List.range all.size = L.map (·.1) := by rw [h2, List.range_eq_range']; simp
    rw [this]
    exact wpOps_trace C hget h3 h4 hp (fun a w h => hq st' a w h7 h)
  | true =>
    simp only [Bool.not_true, Bool.false_or, Bool.and_eq_true, List.append_nil, List.reverse_reverse] at h6
    refine wp_region_any C.hord ?_
    have hp' : Post P w0 fp nt st a { w with drawn := w.drawn + 1 } := by obtain ⟨β, R⟩ := hp; exact ⟨β, R.drew _⟩
    obtain ⟨g1, g2, g3⟩ := orderOk_spec h6.2
    refine wpAny_trace C (L := L) (by omega) ?_ h3 h4 hp' (fun a w h => hq st' a w h7 h)
    have hrep : ∀ j d, j < all.size → (Array.replicate all.size false).getD j d = false := by
      intro j d hj
      rw [Array.getD_eq_getD_getElem?, Array.getElem?_replicate, if_pos hj]; rfl
    refine ⟨fun x hx => ⟨hget x hx, hrep _ _ ?_⟩, ?_, ?_, by simp, ?_, ?_, ?_⟩
    · exact (Array.getElem?_eq_some_iff.1 (hget x hx)).1
    · intro i hi _
      have hi' : i < L.length := by omega
      exact ⟨L[i], List.getElem_mem hi', (hidx i L[i] (by simp [hi'])).1⟩
    · rw [h2]
      exact List.pairwise_lt_range'
    · intro j o hj hl
      rw [hrep _ _ (Array.getElem?_eq_some_iff.1 hj).1] at hl
      cases hl
    · intro i o ho
      have := g1 i o (by simpa using ho)
      simpa using this
    · intro U hU x hx y hy hlt hUx hn
      obtain ⟨m, hm'⟩ := List.mem_iff_getElem?.1 hx
      obtain ⟨m2, hm2⟩ := List.mem_iff_getElem?.1 hy
      obtain ⟨e1, e2⟩ := hidx m x hm'
      obtain ⟨e3, e4⟩ := hidx m2 y hm2
      have hf := g3 m x.2.1 (footOf x.2.2) (by simpa using e2) (by simp [hm'])
      rw [Nat.zero_add] at hf
      refine freeOf_spec (U := U) hf ?_ ?_ (m2 - (m + 1)) y.2.1 (footOf y.2.2) ?_ ?_ hn
      · intro d hd
        simp only [List.mem_singleton] at hd
        subst hd
        rw [← e1]; exact hUx
      · intro q z hz he
        have hz' : all[m + 1 + q]? = some z := by simpa [List.getElem?_drop] using hz
        exact hU _ z hz' he
      · rw [List.getElem?_drop, show m + 1 + (m2 - (m + 1)) = m2 by omega]
        simpa using e4
      · rw [List.getElem?_drop, show m + 1 + (m2 - (m + 1)) = m2 by omega]
        simp [hm2]
end
end
end Go.Abs
