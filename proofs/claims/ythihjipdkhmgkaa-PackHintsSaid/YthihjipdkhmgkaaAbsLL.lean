/- Functions told by layouts: what is handed in, what comes out; from the equation of a body to a contract. -/
import Derived.Test.YthihjipdkhmgkaaAbsCutL
set_option linter.unusedVariables false
set_option linter.unusedSimpArgs false
namespace Go.Abs
universe u
open Go.RowKit

/-! ### Results -/
def resAVs (T : Tab) (st : St) : List ResultVar → Option (List AV)
  | [] => some []
  | .tmp t :: r => (match st.env t with
    | some a => (match resAVs T st r with | some l => some (a :: l) | none => none)
    | none => none)
  | .cell t ty :: r => (match st.env t, T.get ty with
    | some (.c x), some ti => (match loadAt ti st.heap x with
      | some δ => (match resAVs T st r with | some l => some (δ.av :: l) | none => none)
      | none => none)
    | _, _ => none)

def resAV : List AV → AV
  | [a] => a
  | l => .tup l
def resV : List Value → Value
  | [v] => v
  | vs => .tuple vs.toArray
def resOne (a : Act) : ResultVar → Sem Value
  | .tmp t => pure (a.tmps.getD t undef)
  | .cell c t => do loadVar t (← asAddr (a.tmps.getD c undef))

section
variable {P : Program} {w0 : World} {fp : FP} {nt : Nat} {β : Nat → Value} {st : St} {a : Act} {w : World}

theorem asAddr_of_load {t : Nat} {x v : Value} (h : (Instr.loadAt t x).run P w = .ok v w) : (do loadVar t (← asAddr x) : Sem Value).run P w = .ok v w := by
  unfold Instr.loadAt at h
  cases x with
  | pointer p =>
    cases p with
    | some A => simpa [Instr.sureAddr, asAddr] using h
    | none => simp [Instr.sureAddr, stuck] at h
  | _ => simp [Instr.sureAddr, stuck] at h

theorem run_results (C : Ctx P) (R : Rel P w0 fp nt β st a w) {fn : Func} {l : List AV} (e : resAVs C.T st fn.results.toList = some l) :
    ∃ vs : List Value, (results fn a.tmps).run P w = .ok (resV vs) w ∧ AVsRel st.heap β w l vs := by
  have key : ∀ (rs : List ResultVar) (l : List AV), resAVs C.T st rs = some l → ∃ vs : List Value, (rs.mapM (resOne a)).run P w = .ok vs w ∧ AVsRel st.heap β w l vs := by
    intro rs
    induction rs with
    | nil => intro l e; cases e; exact ⟨[], by simp, by simp only [AVsRel]⟩
    | cons r rs ih =>
      intro l e
      cases r with
      | tmp t =>
        simp only [resAVs] at e
        split at e
        · rename_i av ht
          split at e
          · rename_i l' hl
            cases e
            obtain ⟨vs, h1, h2⟩ := ih l' hl
            refine ⟨a.tmps.getD t undef :: vs, ?_, by simp only [AVsRel]; exact ⟨_, _, rfl, R.env t av ht, h2⟩⟩
            rw [List.mapM_cons]
            simp only [Sem.run_bind, resOne, Sem.run_pure, Result.andThen_ok, h1]
          · cases e
        · cases e
      | cell t ty =>
        simp only [resAVs] at e
        split at e
        · rename_i x ti ht hti
          split at e
          · rename_i δ hδ
            split at e
            · rename_i l' hl
              cases e
              obtain ⟨vs, h1, h2⟩ := ih l' hl
              have hx := R.env t _ ht
              simp only [AVRel] at hx
              obtain ⟨_, v, h3, h4⟩ := loadAt_rel R (C.hT _ _ hti) hx hδ
              refine ⟨v :: vs, ?_, by simp only [AVsRel]; exact ⟨_, _, rfl, h4, h2⟩⟩
              rw [List.mapM_cons]
              have h5 : (resOne a (.cell t ty)).run P w = .ok v w := asAddr_of_load h3
              simp only [Sem.run_bind, h5, Sem.run_pure, Result.andThen_ok, h1]
            · cases e
          · cases e
        · cases e
  obtain ⟨vs, h1, h2⟩ := key _ _ e
  refine ⟨vs, ?_, h2⟩
  unfold results
  have h3 : (fn.results.mapM (resOne a)).run P w = .ok vs.toArray w := by
    cases hr : fn.results with
    | mk rl =>
      rw [hr] at h1
      rw [List.mapM_toArray, Sem.run_map, h1]
      rfl
  have h4 : (results fn a.tmps).run P w = ((fn.results.mapM (resOne a)) >>= fun vs => (pure (if h : vs.size = 1 then vs[0] else .tuple vs) : Sem Value)).run P w := rfl
  unfold results at h4
  rw [h4, Sem.run_bind, h3]
  simp only [Result.andThen_ok, Sem.run_pure]
  congr 1
  match vs with
  | [] => rfl
  | [v] => rfl
  | v :: u :: r => simp [resV]

/-- The state in other slots. -/
theorem Rel.act (R : Rel P w0 fp nt β st a w) {nt' : Nat} {env : Nat → Option AV} {a' : Act} {dfs : List Deferred} (hd : a'.defers = dfs) (hs : a'.tmps.size = nt') (hn : nt' ≤ ioN)
    (he : ∀ t av, env t = some av → AVRel st.heap β w av (a'.tmps.getD t undef)) : Rel P w0 ⟨fp.anc, fp.hb, dfs⟩ nt' β { env := env, heap := st.heap } a' w :=
  ⟨hd, hs, hn, he, R.heap, R.sep, R.lo, R.hid, R.hb, R.os, R.tape, R.output, R.grow, R.keep, R.anc, R.ancN⟩

theorem avs_get : ∀ {h : Heap} {l : List AV} {vs : List Value}, AVsRel h β w l vs → l.length = vs.length ∧ ∀ i av, l[i]? = some av → AVRel h β w av (vs.toArray.getD i undef) := by
  intro h l
  induction l with
  | nil => intro vs H; simp only [AVsRel] at H; subst H; exact ⟨rfl, fun i av hi => by simp at hi⟩
  | cons x l ih =>
    intro vs H
    simp only [AVsRel] at H
    obtain ⟨v, r, rfl, hv, hr⟩ := H
    obtain ⟨h1, h2⟩ := ih hr
    refine ⟨by simp [h1], fun i av hi => ?_⟩
    cases i with
    | zero => simp at hi; subst hi; simpa using hv
    | succ i => simpa using h2 i av (by simpa using hi)

theorem avs_of : ∀ {h : Heap} {l : List AV} {vs : List Value}, l.length = vs.length → (∀ i av, l[i]? = some av → AVRel h β w av (vs.toArray.getD i undef)) → AVsRel h β w l vs := by
  intro h l
  induction l with
  | nil => intro vs hl H; cases vs with
    | nil => simp only [AVsRel]
    | cons => simp at hl
  | cons x l ih =>
    intro vs hl H
    cases vs with
    | nil => simp at hl
    | cons v vs =>
      simp only [AVsRel]
      refine ⟨v, vs, rfl, by simpa using H 0 x rfl, ih (by simpa using hl) fun i av hi => ?_⟩
      simpa using H (i + 1) av (by simpa using hi)
end

/-! ### Contracts -/
structure FL where
  inp : Lay
  n : Nat
  outs : List (AExit × Lay)
  res : List ResultVar
  /-- are its results told frozen data? (then what is handed in frozen is given up by the caller, where it was the caller's own) -/
  strict : Bool

abbrev FL.inT (S : FL) : Type := S.inp.T
abbrev FL.outT (S : FL) : Type := outsT S.outs

def finL (T : Tab) (S : FL) (e : AExit) (st : St) : Option S.outT :=
  match e with
  | .exit _ => none
  | .panic t n => decOut (.panic t n) { env := fun _ => none, heap := st.heap } S.outs
  | _ => (match resAVs T st S.res with
    | some l => decOut .ret { env := fun i => l[i]?, heap := st.heap } S.outs
    | none => none)

def endOf (e : AExit) (vs : List Value) : Ending :=
  match e with
  | .panic t n => .panicked (panChain t n)
  | _ => .returned (resV vs)

/-- What a call comes to. -/
def CallsL (P : Program) (f : Nat) (S : FL) (F : S.inT → Option S.outT) : Prop :=
  ∀ (us : List Value) (x : S.inT) (y : S.outT) (w : World) (fp : FP) (β : Nat → Value), us.length = S.n → fp.dfs = [] → F x = some y →
    Rel P w fp us.length β (S.inp.enc x) { tmps := us.toArray, defers := [] } w →
    Calls P f us.toArray w fun e w' => ∃ (β' : Nat → Value) (vs : List Value), Rel P w fp vs.length β' (encOut S.outs y).2 { tmps := vs.toArray, defers := [] } w' ∧ e = endOf (encOut S.outs y).1 vs ∧
      ((∀ t n, (encOut S.outs y).1 ≠ .panic t n) → vs.length = S.res.length)

section
variable {P : Program} (C : Ctx P)

theorem resAVs_length {T : Tab} {st : St} : ∀ {rs : List ResultVar} {l : List AV}, resAVs T st rs = some l → l.length = rs.length := by
  intro rs
  induction rs with
  | nil => intro l e; cases e; rfl
  | cons r rs ih =>
    intro l e
    cases r <;> simp only [resAVs] at e
    · split at e
      · split at e
        · rename_i h; cases e; simp [ih h]
        · cases e
      · cases e
    · split at e
      · split at e
        · split at e
          · rename_i h; cases e; simp [ih h]
          · cases e
        · cases e
      · cases e

theorem fun_callsL {f : Nat} {fn : Func} {c : Code} {S : FL} {F : S.inT → Option S.outT} {ann : Ann} (hf : P.funcs[f]? = some fn) (hb : fn.body = some c) (hres : fn.results.toList = S.res) (hnt : (Nat.ble S.n fn.ntmps && Nat.ble fn.ntmps ioN && Nat.ble S.res.length ioN) = true)
    (hoc : closedOuts S.outs = true) (hA : AnnOk P fn.ntmps c ann) (heq : ∀ x, exec C.T C.E fn.ntmps c ann (finL C.T S) (S.inp.enc x) = F x) : CallsL P f S F := by
  intro us x y w fp β hlen hdfs hF R
  rw [Bool.and_eq_true, Bool.and_eq_true] at hnt
  obtain ⟨⟨hnt, hio⟩, hrio⟩ := hnt
  have hnt := nble.1 hnt
  have hio := nble.1 hio
  have hrio := nble.1 hrio
  refine calls_of_wp hf hb ?_
  have h0 := heq x
  rw [hF] at h0
  have hfp : fp = ⟨fp.anc, fp.hb, []⟩ := by cases fp; simp only at hdfs; subst hdfs; rfl
  have R0 : Rel P w fp fn.ntmps β (S.inp.enc x) { tmps := us.toArray ++ Array.replicate (fn.ntmps - us.toArray.size) undef, defers := [] } w := by
    have := R.act (nt' := fn.ntmps) (env := (S.inp.enc x).env) (a' := { tmps := us.toArray ++ Array.replicate (fn.ntmps - us.toArray.size) undef, defers := [] }) (dfs := []) rfl (by simp; omega) hio (fun t av ht => by
      have h1 := R.env t av ht
      have h2 : (us.toArray ++ Array.replicate (fn.ntmps - us.toArray.size) undef).getD t undef = us.toArray.getD t undef := by
        rw [Array.getD_eq_getD_getElem?, Array.getD_eq_getD_getElem?]
        by_cases ht : t < us.length
        · rw [Array.getElem?_append_left (by simpa using ht)]
        · rw [Array.getElem?_append_right (by simp; omega), Array.getElem?_replicate]
          rw [Array.getElem?_eq_none (xs := us.toArray) (by simp; omega)]
          split <;> rfl
      show AVRel _ _ _ _ ((us.toArray ++ Array.replicate (fn.ntmps - us.toArray.size) undef).getD t undef)
      rw [h2]
      exact h1)
    rw [hfp]
    exact this
  refine exec_sound C fn.ntmps h0 hA ⟨_, R0⟩ ?_
  intro ex st' a' w' h1 hp
  have key : ∀ l, resAVs C.T st' S.res = some l → decOut .ret { env := fun i => l[i]?, heap := st'.heap } S.outs = some y → bodyPost P fn (fun e w' => ∃ (β' : Nat → Value) (vs : List Value), Rel P w fp vs.length β' (encOut S.outs y).2 { tmps := vs.toArray, defers := [] } w' ∧ e = endOf (encOut S.outs y).1 vs ∧
      ((∀ t n, (encOut S.outs y).1 ≠ .panic t n) → vs.length = S.res.length)) .ret a' w' := by
    intro l h2 h3
    obtain ⟨β', R'⟩ := hp
    have hl := resAVs_length h2
    rw [← hres] at h2
    obtain ⟨vs, h4, h5⟩ := run_results C R' h2
    obtain ⟨h6, h7⟩ := avs_get h5
    have R2 : Rel P w fp vs.length β' { env := fun i => l[i]?, heap := st'.heap } { tmps := vs.toArray, defers := [] } w' := by
      rw [hfp]
      exact R'.act rfl (by simp) (by rw [← h6, hl]; exact hrio) (fun t av ht => h7 t av ht)
    obtain ⟨h8, h9⟩ := decOut_spec (P := P) (w0 := w) (fp := fp) (nt := vs.length) (a := { tmps := vs.toArray, defers := [] }) (w := w') hoc h3
    obtain ⟨β2, R3⟩ := h9 ⟨_, R2⟩
    exact ⟨R'.defers.trans hdfs, _, h4, β2, vs, R3, by rw [h8]; rfl, fun _ => by omega⟩
  cases ex with
  | exit i => cases h1
  | normal =>
    simp only [finL] at h1
    split at h1
    · rename_i l h2; exact key l h2 h1
    · cases h1
  | ret =>
    simp only [finL] at h1
    split at h1
    · rename_i l h2; exact key l h2 h1
    · cases h1
  | panic t n =>
    simp only [finL] at h1
    obtain ⟨β', R'⟩ := hp
    have R2 : Rel P w fp 0 β' { env := fun _ => none, heap := st'.heap } { tmps := #[], defers := [] } w' := by
      rw [hfp]
      exact R'.act rfl rfl (Nat.zero_le _) (fun t av ht => by cases ht)
    obtain ⟨h8, h9⟩ := decOut_spec (P := P) (w0 := w) (fp := fp) (nt := 0) (a := { tmps := #[], defers := [] }) (w := w') hoc h1
    obtain ⟨β2, R3⟩ := h9 ⟨_, R2⟩
    refine ⟨R'.defers.trans hdfs, β2, [], R3, by rw [h8]; rfl, fun h => absurd h8 (h t n)⟩
end
end Go.Abs
