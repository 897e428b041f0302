/- Deferred closures that recover: what they come to, and functions that defer one. -/
import Derived.Test.YtmfdbnhknaemdaaAbsHandM
import Derived.Defers
import Derived.Recover
set_option linter.unusedVariables false
set_option linter.unusedSimpArgs false
namespace Go.Abs
universe u
open Go.RowKit

section
variable {P : Program} (C : Ctx P) {w0 : World} {fp : FP} {nt : Nat} {β : Nat → Value} {st : St} {a : Act} {w : World}

/-- one operation that acts -/
theorem acts_wp {o : Oper} {δ : Delta} {next : Act → World → Prop} {Q : Exit → Act → World → Prop} (ha : Acts C o st δ) (hd : dstOk nt o.dst = true) (R : Rel P w0 fp nt β st a w)
    (hn : NoPan δ → ∀ a' w', Post P w0 fp nt (st.app o.dst δ) a' w' → next a' w') (hpn : ∀ t n, δ.av = .pan t n → ∀ w', Post P w0 fp nt (st.app none δ) a w' → Q (.panic (panChain t n)) a w') : o.wp P a w next Q := by
  unfold Acts at ha
  split at ha
  · rename_i f args hc
    obtain ⟨e, l, d, h1, h2, h3, h4⟩ := ha
    obtain ⟨cc, hop, hcc, rfl⟩ := calleeOf_spec hc
    obtain ⟨callee, as, ats⟩ := cc
    simp only at hcc
    subst hcc
    refine (C.hE f e h1).call o d l (as.toList.map a.eval) δ next Q ?_ (opds_rel R h2) h3 R hd h4 hn hpn
    rw [Conc.execOp_call_func (a := a) hop]
    congr 2
    apply Array.toList_inj.1
    simp
  · split at ha
    · rename_i f args caps hc
      obtain ⟨e, l, d, h1, h2, h3, h4⟩ := ha
      obtain ⟨cc, t, hop, hcc, rfl, ht⟩ := cloOf_spec hc
      obtain ⟨callee, as, ats⟩ := cc
      simp only at hcc
      subst hcc
      obtain ⟨vs, hv, hcap⟩ := cap_rel R ht
      refine (C.hE f e h1).call o d (l ++ capPtrs caps) (as.toList.map a.eval ++ vs) δ next Q ?_ ((opds_rel R h2).append hcap) h3 R hd h4 hn hpn
      rw [execOp_call_clo (a := a) hop hv]
      congr 2
      apply Array.toList_inj.1
      simp
    · obtain ⟨rq, h1, h2, h3⟩ := ha
      exact Oper.wp_mono (hn h3) (aopA_sound C.hT C.hdep R hd h1 h2)

/-- a suffix of a region's operations -/
theorem ops_sound {all : Array Oper} {Q : Exit → Act → World → Prop} {ρ : Type} {ops : List Oper} {i : Nat} {st : St} {fs : List Foot} {k : St → List Foot → Option ρ} {kp : Nat → Int → St → List Oper → List Foot → Option ρ} {r : ρ} {is : List Nat} {a : Act} {w : World}
    (e : execOps C.T C.E nt all ops st fs k kp = some r) (hall : ∀ j o, ops[j]? = some o → all[i + j]? = some o) (hp : Post P w0 fp nt st a w)
    (hq : ∀ st' fs' a w, k st' fs' = some r → Post P w0 fp nt st' a w → wpOps P all Q is a w)
    (hqp : ∀ t m st' rest fs' a w, kp t m st' rest fs' = some r → Post P w0 fp nt st' a w → Q (.panic (panChain t m)) a w) : wpOps P all Q (List.range' i ops.length ++ is) a w := by
  have hidx : ∀ {L : List Ran} {n : Nat}, L.map (·.2.1) <+: ops → L.map (·.1) = List.range' i n → n = L.length → ∀ x ∈ L, all[x.1]? = some x.2.1 := by
    intro L n h1 h2 hn x hx
    obtain ⟨m, hm'⟩ := List.mem_iff_getElem?.1 hx
    have hml : m < L.length := (List.getElem?_eq_some_iff.1 hm').1
    have e1 : (L.map (·.1))[m]? = some x.1 := by simp [hm']
    have e2 : (L.map (·.2.1))[m]? = some x.2.1 := by simp [hm']
    rw [h2, List.getElem?_range' (by omega)] at e1
    obtain ⟨t, ht⟩ := h1
    have e3 : ops[m]? = some x.2.1 := by
      rw [← ht, List.getElem?_append_left (by simpa using hml)]; exact e2
    have := hall m _ e3
    simp only [Nat.one_mul, Option.some.injEq] at e1
    rw [← e1]; exact this
  rcases execOps_trace C (i := i) e with ⟨L, st', h1, h2, h3, h4, h5⟩ | ⟨L, st', o, δ, rest, t, m, h1, h2, h3, hdo, h4, h5, hpan, h6⟩
  · rw [← h2]
    exact wpOps_trace C (hidx ⟨[], by simp [h1]⟩ h2 (by have := congrArg List.length h1; simpa using this.symm)) h3 h4 hp (fun a w hp' => hq _ _ a w h5 hp')
  · have e1 : List.range' i ops.length ++ is = L.map (·.1) ++ ((i + L.length) :: (List.range' (i + L.length + 1) rest.length ++ is)) := by
      rw [h2, h1]
      simp only [List.length_append, List.length_map, List.length_cons]
      rw [← List.range'_append_1, List.range'_succ]
      simp
    rw [e1]
    refine wpOps_trace C (hidx ⟨o :: rest, by rw [h1]⟩ h2 rfl) h3 h4 hp (fun a w hp' => ?_)
    refine wpOps_pan C (hall L.length o (by rw [h1]; simp)) hdo h5 hpan hp' (fun w' hp2 => hqp _ _ _ _ _ _ _ h6 hp2)

theorem avs_map {h : Heap} : ∀ {l : List AV} {vs : List Value}, AVsRel h β w l vs → l.length = vs.length := fun H => (avs_get H).1

/-- the call of a function that is told by layouts, for these values -/
theorem call_L {f : Nat} {fn : Func} {c : Code} {S : FL} {fr : Bool} {F : S.inT → Option S.outT} (hf : P.funcs[f]? = some fn) (hname : (fn.name == "runtime.NumGoroutine") = false) (hb : fn.body = some c) (hok : okL S = true)
    {o : Oper} {d : Nat} {l : List AV} {us : List Value} {δ : Delta} {next : Act → World → Prop} {Q : Exit → Act → World → Prop}
    (H : ∀ (x : S.inT) (y : S.outT) (fp' : FP) (β' : Nat → Value), F x = some y → fp'.dfs = [] → Rel P w fp' us.length β' (S.inp.enc x) { tmps := us.toArray, defers := [] } w → Calls P f us.toArray w (EndL P S fp' w y))
    (hexec : (execOp a.eval o).run P w = (callFunc f us.toArray).run P w) (hl : AVsRel st.heap β w l us) (hdst : o.dst = some d) (R : Rel P w0 fp nt β st a w) (hd : dstOk nt o.dst = true) (e : (funEntL S fr F).k d l st.heap some = some δ)
    (hn : NoPan δ → ∀ a' w', Post P w0 fp nt (st.app o.dst δ) a' w' → next a' w') (hp : ∀ t n, δ.av = .pan t n → ∀ w', Post P w0 fp nt (st.app none δ) a w' → Q (.panic (panChain t n)) a w') : o.wp P a w next Q := by
  obtain ⟨hln, x, gs, y, h1, h2, h3⟩ := funEntL_inv e
  obtain ⟨lay, s, hw, h4, h5, h6, h7, h8⟩ := leaveK_inv h3
  obtain ⟨fpC, βc, En⟩ := enter R hok hl hln h1
  rw [hdst] at hd
  have hcall := H x y fpC βc h2 En.dfs En.rel
  unfold Oper.wp
  rw [hexec, MuLone.run_callFunc_enter hf hname hb, Oper.upon_enter]
  refine hcall.mono ?_
  rintro e w' ⟨βo, vs, Ro, rfl, hlen⟩
  rw [h5] at Ro
  obtain ⟨β'', hN, hO, hL⟩ := leave R En hd h4 Ro
  obtain ⟨av, hw', hr⟩ := δ
  simp only at h6 h7 h8
  subst h6
  rcases h8 with ⟨p, n, h9, rfl⟩ | ⟨h9, res, h10, rfl⟩
  · rw [h9]
    simp only [endOf]
    refine hp p n rfl w' ⟨β'', ?_⟩
    exact hL none (.c (.val undef)) undef rfl (by simp only [AVRel, CVRel])
  · rw [h9] at hlen ⊢
    simp only [endOf]
    have hvl := hlen (fun t n h => by cases h)
    obtain ⟨hrl, hrr⟩ := res_rel hN hO (vs := vs) (fun i av hi => Ro.env i av hi) h10
    have hnp : NoPan ⟨resAV res, hw', hr⟩ := resAV_nopan (resOf_plain h10)
    refine hn hnp _ _ ⟨β'', ?_⟩
    rw [hdst]
    refine hL (some d) (resAV res) (resV vs) hd ?_
    have hav : AVsRel (heapPut st.heap hw') β'' w' res vs := avs_of (by omega) (fun i av hi => by have := hrr i av hi; rwa [Nat.zero_add] at this)
    match res, vs, hav with
    | [], vs, H => simp only [AVsRel] at H; subst H; simp only [resAV, AVRel]; exact ⟨[], rfl, by simp only [AVsRel]⟩
    | [x], vs, H =>
      simp only [AVsRel] at H
      obtain ⟨v, r, rfl, hv, rfl⟩ := H
      exact hv
    | x :: z :: l, vs, H =>
      have H' := H
      simp only [AVsRel] at H
      obtain ⟨v, r, rfl, hv, v', r', rfl, hv', hr⟩ := H
      simp only [resAV, AVRel]
      exact ⟨_, rfl, H'⟩
end

/-! ### A closure that recovers -/
section
variable {P : Program}

/-- What a deferred closure comes to: the caller's mode before and behind it. -/
def CallsDL (P : Program) (f : Nat) (S : FL) (u u' : FrameMode) (F : S.inT → Option S.outT) : Prop :=
  ∀ (us : List Value) (x : S.inT) (y : S.outT) (w : World) (fp : FP) (β : Nat → Value), us.length = S.n → fp.dfs = [] → F x = some y →
    Rel P w fp us.length β (S.inp.enc x) { tmps := us.toArray, defers := [] } w →
    CallsD P f us.toArray u w fun e u2 w' => u2 = u' ∧ EndL P S fp w y e w'

theorem wpOpsS_step {ops : Array Oper} {Q : Exit → Act → List Frame → World → Prop} {i : Nat} {rest : List Nat} {o : Oper} {a : Act} {cs : List Frame} {w : World} (ho : ops[i]? = some o) (hg : Region.wanted o (yielded ops a.tmps) = true)
    (h : o.wp P a w (fun a' w' => wpOpsS P ops Q rest a' cs w') (fun e a' w' => Q e a' cs w')) : wpOpsS P ops Q (i :: rest) a cs w := by
  unfold Oper.wp at h
  simp only [wpOpsS, ho, hg, if_true]
  split
  · rename_i w' hr; rw [hr] at h; exact h.elim
  · exact h

theorem wpOpsS_rec {ops : Array Oper} {Q : Exit → Act → List Frame → World → Prop} {i : Nat} {rest : List Nat} {o : Oper} {a : Act} {cs cs' : List Frame} {w : World} {v : Value} (ho : ops[i]? = some o) (hg : Region.wanted o (yielded ops a.tmps) = true)
    (hr : (execOp a.eval o).run P w = .ok .recover w) (hc : recoverD cs = some (v, cs') ∨ (recoverD cs = none ∧ v = .nilIface ∧ cs' = cs)) (h : wpOpsS P ops Q rest (a.put o.dst v) cs' w) : wpOpsS P ops Q (i :: rest) a cs w := by
  simp only [wpOpsS, ho, hg, if_true, hr]
  rcases hc with hc | ⟨hc, rfl, rfl⟩
  · rw [hc]; exact h
  · rw [hc]; exact h

theorem wanted_none {o : Oper} {y : Nat → Option Bool} (h : o.guard = none) : Region.wanted o y = true := by simp [Region.wanted, h]

/-- a panic of a caller that is recovered -/
theorem recoverD_pan {c₀ : Frame} {cs : List Frame} {v : Value} (h : c₀.mode = .panicking [{ v := v, recovered := false }]) :
    recoverD (c₀ :: cs) = some (v, { c₀ with mode := .panicking [{ v := v, recovered := true }] } :: cs) := by
  simp only [recoverD, h]
theorem recoverD_ret {c₀ : Frame} {cs : List Frame} (h : c₀.mode = .returning) : recoverD (c₀ :: cs) = none := by
  simp only [recoverD, h]

def Recovers (u u' : FrameMode) (v : Value) : Prop := (u = .returning ∧ u' = .returning ∧ v = .nilIface) ∨ (u = .panicking [{ v := v, recovered := false }] ∧ u' = .panicking [{ v := v, recovered := true }])

theorem start_act {nt : Nat} {fp : FP} {w : World} {β : Nat → Value} {st : St} {us : List Value} (hn : us.length ≤ nt) (hio : nt ≤ ioN) {dfs : List Deferred} (R : Rel P w fp us.length β st { tmps := us.toArray, defers := dfs } w) :
    Rel P w ⟨fp.anc, fp.hb, []⟩ nt β st { tmps := us.toArray ++ Array.replicate (nt - us.toArray.size) undef, defers := [] } w := by
  refine R.act (nt' := nt) (env := st.env) (dfs := []) rfl (by simp; omega) hio (fun t av ht => ?_)
  have h1 := R.env t av ht
  have h2 : (us.toArray ++ Array.replicate (nt - us.toArray.size) undef).getD t undef = us.toArray.getD t undef := by
    rw [Array.getD_eq_getD_getElem?, Array.getD_eq_getD_getElem?]
    by_cases ht : t < us.length
    · rw [Array.getElem?_append_left (by simpa using ht)]
    · rw [Array.getElem?_append_right (by simp; omega), Array.getElem?_replicate]
      rw [Array.getElem?_eq_none (xs := us.toArray) (by simp; omega)]
      split <;> rfl
  show AVRel _ _ _ _ ((us.toArray ++ Array.replicate (nt - us.toArray.size) undef).getD t undef)
  rw [h2]
  exact h1

/-- what such a closure does, in the interpreter -/
def cloF (T : Tab) (E : Nat → Option Ent) (nt : Nat) (S : FL) (ops : Array Oper) (t0 : Nat) (o1 : Oper) (rest : Code) (ann : Ann) (v : Value) (x : S.inT) : Option S.outT :=
  execOps T E nt ops [o1] { env := upd (S.inp.enc x).env t0 (some (.c (.val v))), heap := (S.inp.enc x).heap } [] (fun st' _ => exec T E nt rest ann (finL T S) st') (fun _ _ _ _ _ => none)

theorem clo_callsDL (C : Ctx P) {g : Nat} {fn : Func} {id : Nat} {ops : Array Oper} {rest : Code} {o0 o1 : Oper} {t0 : Nat} {S : FL} {F : S.inT → Option S.outT} {ann : Ann} {u u' : FrameMode} {v : Value}
    (hf : P.funcs[g]? = some fn) (hb : fn.body = some (.seq (.region id ops false) rest)) (hs : List.range ops.size = [0, 1]) (h0 : ops[0]? = some o0) (h1 : ops[1]? = some o1) (hg0 : o0.guard = none) (hg1 : o1.guard = none)
    (hd0 : o0.dst = some t0) (ht0 : Nat.blt t0 fn.ntmps = true) (hrec : ∀ (a : Act) (w : World), (execOp a.eval o0).run P w = .ok .recover w)
    (hres : fn.results.toList = S.res) (hnt : (Nat.ble S.n fn.ntmps && Nat.ble fn.ntmps ioN && Nat.ble S.res.length ioN) = true) (hoc : closedOuts S.outs = true) (hA : AnnOk P fn.ntmps rest ann) (hu : Recovers u u' v)
    (heq : ∀ x, cloF C.T C.E fn.ntmps S ops t0 o1 rest ann v x = F x) : CallsDL P g S u u' F := by
  intro us x y w fp β hlen hdfs hF R
  rw [Bool.and_eq_true, Bool.and_eq_true] at hnt
  obtain ⟨⟨hnt, hio⟩, hrio⟩ := hnt
  have hnt := nble.1 hnt
  have hio := nble.1 hio
  have hfp : fp = ⟨fp.anc, fp.hb, []⟩ := by cases fp; simp only at hdfs; subst hdfs; rfl
  have e := heq x
  rw [hF] at e
  unfold cloF at e
  have R0 := start_act (nt := fn.ntmps) (by omega) hio R
  rw [← hfp] at R0
  have R1 := R0.pure (dst := some t0) (av := .c (.val v)) (v := v) (hr := []) ht0 (by simp only [AVRel, CVRel])
  refine callsD_of_wpS hf hb ?_
  intro c₀ cs hu0
  refine wpS_seq (wpS_region ?_)
  rw [hs]
  refine wpOpsS_rec (v := v) (cs' := { c₀ with mode := u' } :: cs) h0 (wanted_none hg0) (hrec _ _) ?_ ?_
  · rcases hu with ⟨rfl, rfl, rfl⟩ | ⟨rfl, rfl⟩
    · refine .inr ⟨recoverD_ret hu0, rfl, ?_⟩
      rw [← hu0]
    · exact .inl (recoverD_pan hu0)
  obtain ⟨hd, δ, hst, hend⟩ := execOps_cons C e
  have hend : NoPan δ ∧ exec C.T C.E fn.ntmps rest ann (finL C.T S) ({ env := upd (S.inp.enc x).env t0 (some (.c (.val v))), heap := (S.inp.enc x).heap : St }.app o1.dst δ) = some y := by
    rcases hend with h2 | ⟨_, _, _, h2⟩
    · exact h2
    · cases h2
  obtain ⟨hnp, h2⟩ := hend
  have hacts : Acts C o1 { env := upd (S.inp.enc x).env t0 (some (.c (.val v))), heap := (S.inp.enc x).heap } δ := by
    cases hst with
    | run δ hw ha =>
      unfold WantsR at hw
      rw [hg1] at hw
      exact ha
    | skip hw =>
      unfold WantsR at hw
      rw [hg1] at hw
      cases hw
  refine wpOpsS_step h1 (wanted_none hg1) ?_
  rw [hd0]
  refine acts_wp C hacts hd R1 ?_ (fun t n h => absurd h (hnp t n))
  rintro - a' w' ⟨β', R2⟩
  show rest.wpS P _ a' _ w'
  refine wpS_of_wp ?_
  refine wp_mono (rest_callsL C hres hrio hoc hA hdfs h2 R2) ?_
  intro e a w'' h
  cases e with
  | normal => exact ⟨h.1, u', rfl, h.2.elim fun v h => ⟨v, h.1, rfl, h.2⟩⟩
  | ret => exact ⟨h.1, u', rfl, h.2.elim fun v h => ⟨v, h.1, rfl, h.2⟩⟩
  | panic ch => exact ⟨h.1, u', rfl, rfl, h.2⟩
  | outgrown => exact ⟨u', rfl, h⟩
  | exit i => exact h.elim
  | goto l => exact h.elim
end
end Go.Abs
