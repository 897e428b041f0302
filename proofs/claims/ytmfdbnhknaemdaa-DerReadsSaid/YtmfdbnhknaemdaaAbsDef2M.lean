/- Functions that defer one closure, which recovers: the body behind the defer, its ways out, the whole. -/
import Derived.Test.YtmfdbnhknaemdaaAbsDefM
set_option linter.unusedVariables false
set_option linter.unusedSimpArgs false
namespace Go.Abs
universe u
open Go.RowKit

/-- the state behind a call: what it told stands in these slots -/
def unres : Nat → AV → List AV
  | 1, a => [a]
  | _, .tup l => l
  | _, _ => []

def cellPtr (st : St) (c : Nat) : Option Nat :=
  match st.env c with
  | some (.c (.ptr q base none _)) => bif Nat.beq base 0 then (match st.heap q with | some (.cells _) => some q | _ => none) else none
  | _ => none
def tied (st0 st : St) (cs : List Nat) : Bool := cs.all fun c => match cellPtr st0 c, cellPtr st c with | some q, some q' => Nat.beq q q' | _, _ => false
def slotsOf (st : St) : List Nat → Option (List AV)
  | [] => some []
  | c :: cs => (match st.env c, slotsOf st cs with | some a, some l => some (a :: l) | _, _ => none)

/-- these slots; nothing is told of those that are not listed -/
def slotsK (st : St) (kn : List Nat) : List Nat → Option (List AV)
  | [] => some []
  | c :: cs => (match (bif memB c kn then st.env c else some (.c (.val undef))), slotsK st kn cs with | some a, some l => some (a :: l) | _, _ => none)
def slotK (a : Act) (kn : List Nat) (c : Nat) : Value := bif memB c kn then a.tmps.getD c undef else undef

/-- a way out: the deferred closure, then the results -/
def goD (T : Tab) (S : FL) (cs : List Nat) (st0 : St) (ent : Ent) (st : St) : Option S.outT :=
  bif tied st0 st cs then (match slotsOf st cs with
    | some l => ent.k 0 l st.heap (fun δ => match δ.av with | .pan _ _ => none | _ => finL T S .ret (st.app none δ))
    | none => none) else none
def finD (T : Tab) (S : FL) (cs : List Nat) (st0 : St) (entR : Ent) (pt : Nat) (entP : Int → Ent) (e : AExit) (st : St) : Option S.outT :=
  match e with
  | .normal => goD T S cs st0 entR st
  | .ret => goD T S cs st0 entR st
  | .panic t n => bif Nat.beq t pt then goD T S cs st0 (entP n) st else none
  | .exit _ => none

theorem leaves_mono {P : Program} {fn : Func} {tmps : Array Value} {R R' : Ending → World → Prop} (h : ∀ e w, R e w → R' e w) : ∀ {ds : List Deferred} {u : FrameMode} {w : World}, Leaves P fn tmps R ds u w → Leaves P fn tmps R' ds u w := by
  intro ds
  induction ds with
  | nil =>
    intro u w H
    cases u with
    | run => exact H.elim
    | returning => obtain ⟨v, h1, h2⟩ := H; exact ⟨v, h1, h _ _ h2⟩
    | panicking ch => exact h _ _ H
  | cons d ds ih =>
    intro u w H
    obtain ⟨hu, fv, cap, f, args, h1, h2, h3⟩ := H
    refine ⟨hu, fv, cap, f, args, h1, h2, h3.mono ?_⟩
    intro e u' w' h4
    cases e with
    | returned v => exact ih h4
    | panicked ch => exact ih h4
    | outgrown => exact h _ _ h4

section
variable {P : Program} (C : Ctx P) {w0 : World} {fp : FP} {nt : Nat} {β : Nat → Value} {st : St} {a : Act} {w : World}

theorem slotsOf_rel (R : Rel P w0 fp nt β st a w) : ∀ {cs : List Nat} {l : List AV}, slotsOf st cs = some l → AVsRel st.heap β w l (cs.map fun c => a.tmps.getD c undef) := by
  intro cs
  induction cs with
  | nil => intro l e; cases e; simp only [List.map_nil, AVsRel]
  | cons c cs ih =>
    intro l e
    simp only [slotsOf] at e
    split at e
    · rename_i av l' h1 h2
      cases e
      simp only [List.map_cons, AVsRel]
      exact ⟨_, _, rfl, R.env c av h1, ih h2⟩
    · cases e

theorem slotsK_rel (R : Rel P w0 fp nt β st a w) {kn : List Nat} : ∀ {cs : List Nat} {l : List AV}, slotsK st kn cs = some l → AVsRel st.heap β w l (cs.map (slotK a kn)) := by
  intro cs
  induction cs with
  | nil => intro l e; cases e; simp only [List.map_nil, AVsRel]
  | cons c cs ih =>
    intro l e
    simp only [slotsK] at e
    split at e
    · rename_i av l' h1 h2
      cases e
      simp only [List.map_cons, AVsRel]
      refine ⟨_, _, rfl, ?_, ih h2⟩
      unfold slotK
      cases hb : memB c kn with
      | true => rw [hb] at h1; exact R.env c av h1
      | false => rw [hb] at h1; cases h1; simp only [AVRel, CVRel, cond_false]
    · cases e

theorem cellPtr_rel (R : Rel P w0 fp nt β st a w) {c q : Nat} (h : cellPtr st c = some q) : ∃ b segs, a.tmps.getD c undef = .pointer (some ⟨b, 0, none⟩) ∧ β q = .pointer (some ⟨b, 0, none⟩) ∧ st.heap q = some (.cells segs) := by
  unfold cellPtr at h
  split at h
  · rename_i q' base room he
    obtain ⟨h1, h2⟩ := cond_some h
    have h1 := nbeq.1 h1
    split at h2
    · rename_i segs hs
      cases h2
      have := R.env c _ he
      simp only [AVRel, CVRel] at this
      obtain ⟨g, hg, hp⟩ := this
      rw [hs] at hg
      cases hg
      obtain ⟨b, e1, e2, _⟩ := hp
      subst h1
      exact ⟨b, segs, by rw [e2]; rfl, e1, hs⟩
    · cases h2
  · cases h

/-- the captured cells are the same, at the defer and at the way out -/
theorem tied_rel {w1 w' : World} {fp : FP} {β β' : Nat → Value} {st0 st : St} {a a' : Act} (R : Rel P w1 fp nt β st0 a w) (R' : Rel P w1 fp nt β' st a' w') (hanc : ∀ q g, st0.heap q = some g → fp.anc q = some (β q)) {cs : List Nat} (h : tied st0 st cs = true) :
    cs.map (fun c => a'.tmps.getD c undef) = cs.map (fun c => a.tmps.getD c undef) := by
  refine List.map_congr_left fun c hc => ?_
  simp only [tied, List.all_eq_true] at h
  have := h c hc
  split at this
  · rename_i q q' h1 h2
    have e := nbeq.1 this
    subst e
    obtain ⟨b, segs, e1, e2, e3⟩ := cellPtr_rel R h1
    obtain ⟨b', segs', e4, e5, e6⟩ := cellPtr_rel R' h2
    have := R'.anc q (β q) _ (hanc q _ e3) e6 trivial
    rw [this, e2] at e5
    rw [e1, e4]
    exact e5.symm
  · cases this

/-- one way out of a function that defers a closure -/
theorem go_leaves {g : Nat} {fnc : Func} {cc : Code} {SC : FL} {FC : SC.inT → Option SC.outT} {u u' : FrameMode} (hu : u ≠ .run) (hset : settle u' = .returning) (hfc : P.funcs[g]? = some fnc) (hname : (fnc.name == "runtime.NumGoroutine") = false) (hbc : fnc.body = some cc)
    (hokC : okL SC = true) (hC : CallsDL P g SC u u' FC) {S : FL} {fn : Func} (hres : fn.results.toList = S.res) (hrio : Nat.ble S.res.length ioN = true) (hoc : closedOuts S.outs = true) {y : S.outT} {w1 : World} {cs : List Nat} {st0 : St} {β0 : Nat → Value} {a0 : Act} {wa : World} {vs : List Value} {d : Deferred}
    (hvs : vs = cs.map fun c => a0.tmps.getD c undef) (hdd : d = { target := .fn (.func g) vs.toArray, args := #[] }) (hnt : Nat.blt 0 nt = true)
    (R0 : Rel P w1 fp nt β0 st0 a0 wa) (hanc : ∀ q g, st0.heap q = some g → fp.anc q = some (β0 q)) (R : Rel P w1 fp nt β st a w) (h : goD C.T S cs st0 (funEntL SC false FC) st = some y) :
    Leaves P fn a.tmps (EndL P S ⟨fp.anc, fp.hb, []⟩ w1 y) [d] u w := by
  unfold goD at h
  obtain ⟨ht, h⟩ := cond_some h
  have htie := tied_rel R0 R hanc ht
  split at h
  · rename_i l hl
    have hrel := slotsOf_rel R hl
    rw [htie, ← hvs] at hrel
    have hnat := (fun (ρ : Type) (k : Delta → Option ρ) => (show (funEntL SC false FC).k 0 l st.heap k = ((funEntL SC false FC).k 0 l st.heap some).bind k from by
      simp only [funEntL]
      cases Nat.beq l.length SC.n with
      | false => rfl
      | true =>
        simp only [cond_true]
        cases SC.inp.decN (callSt l st.heap) (rhoOf (nmL SC l st.heap)) (nilOf (nmL SC l st.heap)) with
        | none => rfl
        | some p =>
          obtain ⟨x, gs⟩ := p
          simp only
          cases FC x with
          | none => rfl
          | some y => exact leaveK_nat))
    rw [hnat] at h
    cases hδ : (funEntL SC false FC).k 0 l st.heap some with
    | none => rw [hδ] at h; cases h
    | some δ =>
      rw [hδ] at h
      simp only [Option.bind_some] at h
      obtain ⟨hln, x, gs, yC, h1, h2, h3⟩ := funEntL_inv hδ
      obtain ⟨lay, s, hw, h4, h5, h6, h7, h8⟩ := leaveK_inv h3
      obtain ⟨fpC, βc, En⟩ := enter R hokC hrel hln h1
      have hcall := hC vs x yC w fpC βc (by have := (avs_get hrel).1; omega) En.dfs h2 En.rel
      rw [hdd]
      refine leaves_cons (f := g) (args := vs.toArray) hu ?_ (hcall.mono ?_)
      · show (callFunc g (#[] ++ vs.toArray)).run P w = _
        rw [MuLone.run_callFunc_enter hfc hname hbc]
        simp
      · rintro e u2 w' ⟨rfl, βo, rs, Ro, rfl, hlen⟩
        rw [h5] at Ro
        obtain ⟨β'', hN, hO, hL⟩ := leave R En (d := 0) hnt h4 Ro
        obtain ⟨av, hw', hr⟩ := δ
        simp only at h6 h7 h8
        subst h6
        rcases h8 with ⟨p, n, h9, rfl⟩ | ⟨h9, res, h10, rfl⟩
        · simp only at h; cases h
        · rw [h9]
          simp only [endOf]
          show Leaves P fn a.tmps _ [] (settle u2) w'
          rw [hset]
          have hfin : finL C.T S .ret (st.app none ⟨resAV res, hw', hr⟩) = some y := by
            simp only at h
            split at h
            · cases h
            · exact h
          simp only [finL] at hfin
          split at hfin
          · rename_i l2 hl2
            have R2 : Rel P w1 fp nt β'' (st.app none ⟨resAV res, hw', hr⟩) a w' := hL none (.c (.val undef)) undef rfl (by simp only [AVRel, CVRel])
            have hl3 := resAVs_length hl2
            rw [← hres] at hl2
            obtain ⟨vs2, h11, h12⟩ := run_results C R2 hl2
            obtain ⟨h13, h14⟩ := avs_get h12
            have R3 : Rel P w1 ⟨fp.anc, fp.hb, []⟩ vs2.length β'' { env := fun i => l2[i]?, heap := (st.app none ⟨resAV res, hw', hr⟩).heap } { tmps := vs2.toArray, defers := [] } w' :=
              R2.act rfl (by simp) (by rw [← h13, hl3]; exact nble.1 hrio) (fun t av ht => h14 t av ht)
            obtain ⟨h15, h16⟩ := decOut_spec (P := P) (w0 := w1) (fp := ⟨fp.anc, fp.hb, []⟩) (nt := vs2.length) (a := { tmps := vs2.toArray, defers := [] }) (w := w') hoc hfin
            obtain ⟨β2, R4⟩ := h16 ⟨_, R3⟩
            exact ⟨_, h11, β2, vs2, R4, by rw [h15]; rfl, fun _ => by omega⟩
          · cases hfin
  · cases h
end

/-! ### The whole function -/
def VS.lt (p : Nat → Bool) : VS → Bool
  | .env t _ => p t
  | .reg _ _ => true
def slotsLt (l : Lay) (p : Nat → Bool) : Bool := (l.fix.all fun x => p x.1) && l.vars.all (VS.lt p)
theorem fixEnvs_lt {p : Nat → Bool} : ∀ {l : List (Nat × CS)}, (∀ x ∈ l, p x.1 = true) → ∀ x ∈ fixEnvs l, p x.1 = true := by
  intro l
  induction l with
  | nil => intro _ p hp; simp [fixEnvs] at hp
  | cons q r ih =>
    obtain ⟨t, s⟩ := q
    intro H x hx
    simp only [fixEnvs] at hx
    split at hx
    · rcases List.mem_cons.1 hx with rfl | hx
      · exact H (t, s) (by simp)
      · exact ih (fun p hp => H p (by simp [hp])) x hx
    · exact ih (fun p hp => H p (by simp [hp])) x hx
theorem varsEnvs_lt {p : Nat → Bool} : ∀ {l : List VS} {x : varsT l}, (∀ v ∈ l, v.lt p = true) → ∀ y ∈ varsEnvs l x, p y.1 = true := by
  have one : ∀ {v : VS} {x : v.T} {l : List (Nat × AV)}, v.lt p = true → (∀ y ∈ l, p y.1 = true) → ∀ y ∈ v.envs x l, p y.1 = true := by
    intro v x l h H y hy
    cases v with
    | env t s =>
      simp only [VS.envs] at hy
      rcases List.mem_cons.1 hy with rfl | hy
      · exact h
      · exact H y hy
    | reg q s => exact H y hy
  intro l
  induction l with
  | nil => intro x _ p hp; simp [varsEnvs] at hp
  | cons v r ih =>
    intro x H
    cases r with
    | nil => exact one (H v (by simp)) (fun p hp => by simp at hp)
    | cons w r => exact one (H v (by simp)) (ih fun u hu => H u (by simp only [List.mem_cons] at hu ⊢; exact .inr hu))
theorem slotsLt_spec {l : Lay} {p : Nat → Bool} (h : slotsLt l p = true) {x : l.T} {t : Nat} {av : AV} (ht : (l.enc x).env t = some av) : p t = true := by
  simp only [slotsLt, Bool.and_eq_true, List.all_eq_true] at h
  have hm : (t, av) ∈ fixEnvs l.fix ++ varsEnvs l.vars x := ofL_mem ht
  rcases List.mem_append.1 hm with hm | hm
  · exact fixEnvs_lt (fun y hy => h.1 y hy) (t, av) hm
  · exact varsEnvs_lt h.2 (t, av) hm

section
variable {P : Program}

/-- behind the defer: into a view of its own -/
def midF (S SM : FL) (kn : List Nat) (tc : Nat) (FM : SM.inT → Option SM.outT) (st : St) : Option S.outT :=
  match slotsK st kn (List.range SM.n) with
  | some l => (funEntL SM false FM).k tc l st.heap (fun δ => match δ.av with | .pan _ _ => none | av => decOut .ret { env := fun i => (unres SM.res.length av)[i]?, heap := heapPut st.heap δ.hw } S.outs)
  | none => none
def deferF (T : Tab) (E : Nat → Option Ent) (nt : Nat) (A : Code) (ann : Ann) (S SM : FL) (kn : List Nat) (tc : Nat) (FM : SM.inT → Option SM.outT) (x : S.inT) : Option S.outT :=
  exec T E nt A ann (fun e st => match e with | .normal => midF S SM kn tc FM st | _ => none) (S.inp.enc x)

theorem unres_res : ∀ {l : List AV}, unres l.length (resAV l) = l := by
  intro l
  match l with
  | [] => rfl
  | [a] => rfl
  | a :: b :: r => rfl

/-- a closure's contracts: at a return, and at a panic -/
structure CloOk (P : Program) (g : Nat) (SC : FL) (pt : Nat) (FR : SC.inT → Option SC.outT) (FPn : Int → SC.inT → Option SC.outT) : Prop where
  ret : CallsDL P g SC .returning .returning FR
  pan : ∀ n, CallsDL P g SC (.panicking [{ v := .iface pt (.agg #[.int .i64 n]), recovered := false }]) (.panicking [{ v := .iface pt (.agg #[.int .i64 n]), recovered := true }]) (FPn n)

theorem defer_callsL (C : Ctx P) {f g : Nat} {fn fnc : Func} {A rest cc : Code} {id : Nat} {ops : Array Oper} {o0 o1 : Oper} {tc pt : Nat} {cs kn : List Nat} {S SM SC : FL} {annA ann : Ann} {FR : SC.inT → Option SC.outT} {FPn : Int → SC.inT → Option SC.outT} {FM : SM.inT → Option SM.outT} {F : S.inT → Option S.outT}
    (hf : P.funcs[f]? = some fn) (hb : fn.body = some (.seq A (.seq (.region id ops false) rest))) (hs : List.range ops.size = [0, 1]) (h0 : ops[0]? = some o0) (h1 : ops[1]? = some o1) (hg0 : o0.guard = none) (hg1 : o1.guard = none)
    (hd0 : o0.dst = some tc) (hd1 : o1.dst = none) (htc : (Nat.ble SM.n tc && Nat.blt tc fn.ntmps && Nat.blt 0 fn.ntmps && cs.all fun c => Nat.blt c SM.n) = true)
    (hmk : ∀ (a : Act) (w : World), (execOp a.eval o0).run P w = .ok (.value (.func (.func g) #[] (cs.map fun c => a.tmps.getD c undef).toArray)) w)
    (hdf : ∀ (a : Act) (w : World) (vs : Array Value), a.tmps.getD tc undef = .func (.func g) #[] vs → (execOp a.eval o1).run P w = .ok (.defer { target := .fn (.func g) vs, args := #[] }) w)
    (hfc : P.funcs[g]? = some fnc) (hname : (fnc.name == "runtime.NumGoroutine") = false) (hbc : fnc.body = some cc) (hokC : okL SC = true) (hC : CloOk P g SC pt FR FPn)
    (hres : fn.results.toList = S.res) (hresM : SM.res = S.res) (hnt : (Nat.ble S.n fn.ntmps && Nat.ble fn.ntmps ioN && Nat.ble S.res.length ioN) = true) (hoc : closedOuts S.outs = true) (hocM : closedOuts SM.outs = true) (hokM : okL SM = true) (hslM : slotsLt SM.inp (fun t => memB t kn && Nat.blt t SM.n) = true) (hA1 : AnnOk P fn.ntmps A annA) (hA2 : AnnOk P fn.ntmps rest ann)
    (hM : ∀ x, exec C.T C.E fn.ntmps rest ann (finD C.T SM cs (SM.inp.enc x) (funEntL SC false FR) pt (fun n => funEntL SC false (FPn n))) (SM.inp.enc x) = FM x)
    (heq : ∀ x, deferF C.T C.E fn.ntmps A annA S SM kn tc FM x = F x) : CallsL P f S F := by
  intro us x y w fp β hlen hdfs hF R
  rw [Bool.and_eq_true, Bool.and_eq_true] at hnt
  obtain ⟨⟨hnt, hio⟩, hrio⟩ := hnt
  have hnt := nble.1 hnt
  have hio := nble.1 hio
  simp only [Bool.and_eq_true, List.all_eq_true, nble, nblt] at htc
  obtain ⟨⟨⟨htc1, htc2⟩, htc3⟩, hcs⟩ := htc
  have hfp : fp = ⟨fp.anc, fp.hb, []⟩ := by cases fp; simp only at hdfs; subst hdfs; rfl
  have e := heq x
  rw [hF] at e
  unfold deferF at e
  have R0 := start_act (nt := fn.ntmps) (by omega) hio R
  rw [← hfp] at R0
  refine calls_of_wp_defers hf hb (wp_seq ?_)
  refine exec_sound C fn.ntmps e hA1 ⟨_, R0⟩ ?_
  intro ex st a1 w1 h2 hp
  have h2' : ex = .normal ∧ midF S SM kn tc FM st = some y := by
    cases ex <;> first | exact ⟨rfl, h2⟩ | (cases h2; done)
  obtain ⟨rfl, h2⟩ := h2'
  obtain ⟨β1, R1⟩ := hp
  show (Code.seq (.region id ops false) rest).wp P _ a1 w1
  unfold midF at h2
  cases hl : slotsK st kn (List.range SM.n) with
  | none => rw [hl] at h2; cases h2
  | some l =>
    rw [hl] at h2
    simp only at h2
    have hnat := (fun (ρ : Type) (k : Delta → Option ρ) => (show (funEntL SM false FM).k tc l st.heap k = ((funEntL SM false FM).k tc l st.heap some).bind k from by
      simp only [funEntL]
      cases Nat.beq l.length SM.n with
      | false => rfl
      | true =>
        simp only [cond_true]
        cases SM.inp.decN (callSt l st.heap) (rhoOf (nmL SM l st.heap)) (nilOf (nmL SM l st.heap)) with
        | none => rfl
        | some p =>
          obtain ⟨x, gs⟩ := p
          simp only
          cases FM x with
          | none => rfl
          | some y => exact leaveK_nat))
    rw [hnat] at h2
    cases hδ : (funEntL SM false FM).k tc l st.heap some with
    | none => rw [hδ] at h2; cases h2
    | some δ =>
    rw [hδ] at h2
    simp only [Option.bind_some] at h2
    have hrel := slotsK_rel R1 hl
    generalize hvsM : (List.range SM.n).map (slotK a1 kn) = usM at hrel
    obtain ⟨hln, xM, gs, yM, h3, h4, h5⟩ := funEntL_inv hδ
    obtain ⟨lay, s, hw, h6, h7, h8, h9, h10⟩ := leaveK_inv h5
    obtain ⟨fpC, βc, En⟩ := enter R1 hokM hrel hln h3
    have hsz : a1.tmps.size = fn.ntmps := R1.size
    have hkey : ∀ t av, (SM.inp.enc xM).env t = some av → memB t kn = true ∧ t < SM.n := fun t av ht => by
      have := slotsLt_spec hslM ht
      simp only [Bool.and_eq_true, nblt] at this
      exact this
    have husM : ∀ t, memB t kn = true → t < SM.n → usM.toArray.getD t undef = a1.tmps.getD t undef := by
      intro t hk ht
      rw [← hvsM, Array.getD_eq_getD_getElem?]
      simp [ht, slotK, hk]
    have hvs : ∀ c ∈ cs, (a1.tmps.setIfInBounds tc (.func (.func g) #[] (cs.map fun c => a1.tmps.getD c undef).toArray)).getD c undef = a1.tmps.getD c undef := by
      intro c hc
      have := hcs c hc
      rw [Array.getD_eq_getD_getElem?, Array.getD_eq_getD_getElem?, Array.getElem?_setIfInBounds_ne (by omega)]
    let d : Deferred := { target := .fn (.func g) (cs.map fun c => a1.tmps.getD c undef).toArray, args := #[] }
    let a2 : Act := { tmps := a1.tmps.setIfInBounds tc (.func (.func g) #[] (cs.map fun c => a1.tmps.getD c undef).toArray), defers := [d] }
    have R2 : Rel P w1 ⟨fpC.anc, fpC.hb, [d]⟩ fn.ntmps βc (SM.inp.enc xM) a2 w1 := by
      refine En.rel.act (dfs := [d]) rfl (by simp [a2, hsz]) hio (fun t av ht => ?_)
      have h11 := En.rel.env t av ht
      obtain ⟨hkn, htn⟩ := hkey t av ht
      have : a2.tmps.getD t undef = usM.toArray.getD t undef := by
        rw [husM t hkn htn]
        show (a1.tmps.setIfInBounds tc _).getD t undef = _
        rw [Array.getD_eq_getD_getElem?, Array.getD_eq_getD_getElem?, Array.getElem?_setIfInBounds_ne (by omega)]
      rw [this]
      exact h11
    have hanc : ∀ q g, (SM.inp.enc xM).heap q = some g → fpC.anc q = some (βc q) := fun q g hg => En.anc q (reg_keysOf (ofL_mem hg))
    have hM' := hM xM
    rw [h4] at hM'
    have hdef1 : a1.defers = [] := R1.defers.trans hdfs
    refine wp_seq (wp_region ?_)
    rw [hs]
    refine wpOps_val h0 (wanted_none hg0) (hmk a1 w1) ?_
    rw [hd0]
    have hput : a1.put (some tc) (.func (.func g) #[] (cs.map fun c => a1.tmps.getD c undef).toArray) = { tmps := a2.tmps, defers := [] } := by
      simp only [Act.put, a2]
      rw [hdef1]
    rw [hput]
    have hcl : (Act.mk a2.tmps []).tmps.getD tc undef = .func (.func g) #[] (cs.map fun c => a1.tmps.getD c undef).toArray := by
      show (a1.tmps.setIfInBounds tc _).getD tc undef = _
      rw [Array.getD_eq_getD_getElem?, Array.getElem?_setIfInBounds_self_of_lt (by omega)]
      rfl
    simp only [wpOps, h1, wanted_none hg1, if_true]
    left
    unfold Oper.wp
    rw [hdf _ _ _ hcl, Oper.upon_defer, hd1]
    show rest.wp P _ a2 w1
    -- from the view back
    have hback : ∀ e w', EndL P SM ⟨fpC.anc, fpC.hb, []⟩ w1 yM e w' → EndL P S fp w y e w' := by
      have hfpC : (⟨fpC.anc, fpC.hb, []⟩ : FP) = fpC := by have := En.dfs; cases fpC; simp only at this; subst this; rfl
      rw [hfpC]
      rintro e w' ⟨βo, vs, Ro, rfl, hlen'⟩
      rw [h7] at Ro
      obtain ⟨β'', hN, hO, hL⟩ := leave R1 En (d := tc) (nblt.2 htc2) h6 Ro
      obtain ⟨av, hw', hr⟩ := δ
      simp only at h8 h9 h10
      subst h8
      rcases h10 with ⟨p, n, h11, rfl⟩ | ⟨h11, res, h12, rfl⟩
      · simp only at h2; cases h2
      · rw [h11] at hlen' ⊢
        have hvl := hlen' (fun t n h => by cases h)
        obtain ⟨hrl, hrr⟩ := res_rel hN hO (vs := vs) (fun i av hi => Ro.env i av hi) h12
        have hdec : decOut .ret { env := fun i => res[i]?, heap := heapPut st.heap hw' } S.outs = some y := by
          have e3 : unres SM.res.length (resAV res) = res := by rw [← hrl]; exact unres_res
          have hnp := resAV_nopan (resOf_plain h12)
          simp only at h2
          rw [e3] at h2; exact h2
        have RL := hL none (.c (.val undef)) undef rfl (by simp only [AVRel, CVRel])
        have R3 : Rel P w fp vs.length β'' { env := fun i => res[i]?, heap := heapPut st.heap hw' } { tmps := vs.toArray, defers := [] } w' := by
          rw [hfp]
          refine RL.act rfl (by simp) (by rw [hvl, hresM]; exact nble.1 hrio) (fun t av ht => ?_)
          have := hrr t av ht
          rw [Nat.zero_add] at this
          exact this
        obtain ⟨h15, h16⟩ := decOut_spec (P := P) (w0 := w) (fp := fp) (nt := vs.length) (a := { tmps := vs.toArray, defers := [] }) (w := w') hoc hdec
        obtain ⟨β2, R4⟩ := h16 ⟨_, R3⟩
        exact ⟨β2, vs, R4, by rw [h15], fun _ => by rw [hvl, hresM]⟩
    have hvsM : ∀ vs : List Value, vs = cs.map (fun c => a1.tmps.getD c undef) → vs = cs.map fun c => a2.tmps.getD c undef := by
      rintro vs rfl
      exact List.map_congr_left fun c hc => (hvs c hc).symm
    refine exec_sound C fn.ntmps hM' hA2 ⟨_, R2⟩ ?_
    intro ex st' a' w' h13 hp'
    obtain ⟨β', R'⟩ := hp'
    have hdd : a'.defers = [d] := R'.defers
    have hret : goD C.T SM cs (SM.inp.enc xM) (funEntL SC false FR) st' = some yM → Leaves P fn a'.tmps (EndL P S fp w y) a'.defers .returning w' := by
      intro h
      rw [hdd]
      exact leaves_mono hback (go_leaves C (fp := ⟨fpC.anc, fpC.hb, [d]⟩) (by simp) rfl hfc hname hbc hokC hC.ret (by rw [hres, hresM]) (by rw [hresM]; exact hrio) hocM (hvsM _ rfl) rfl (nblt.2 htc3) R2 hanc R' h)
    cases ex with
    | exit i => cases h13
    | normal => exact hret h13
    | ret => exact hret h13
    | panic t n =>
      simp only [finD] at h13
      obtain ⟨h14, h20⟩ := cond_some h13
      have h14 := nbeq.1 h14
      subst h14
      show Leaves P fn a'.tmps (EndL P S fp w y) a'.defers (.panicking (panChain t n)) w'
      rw [hdd]
      exact leaves_mono hback (go_leaves C (fp := ⟨fpC.anc, fpC.hb, [d]⟩) (by simp [panChain]) rfl hfc hname hbc hokC (hC.pan n) (by rw [hres, hresM]) (by rw [hresM]; exact hrio) hocM (hvsM _ rfl) rfl (nblt.2 htc3) R2 hanc R' h20)
end
end Go.Abs
