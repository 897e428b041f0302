/- Functions by hand: one operation after the other, and the rest by the interpreter. -/
import Derived.Test.YtmfdbnhknaemdaaAbsOrM
import Derived.KernelRfl
set_option linter.unusedVariables false
set_option linter.unusedSimpArgs false
namespace Go.Abs
open Go.RowKit

section
variable {P : Program} {ops : Array Oper} {Q : Exit → Act → World → Prop} {i : Nat} {rest : List Nat} {a : Act} {w w' : World} {o : Oper} {v : Value}
theorem wpOps_val (ho : ops[i]? = some o) (hg : Region.wanted o (yielded ops a.tmps) = true) (he : (execOp a.eval o).run P w = .ok (.value v) w') (h : wpOps P ops Q rest (a.put o.dst v) w') : wpOps P ops Q (i :: rest) a w := by
  simp only [wpOps, ho, hg, if_true]
  left
  unfold Oper.wp
  rw [he]
  exact h
theorem wpOps_halt (ho : ops[i]? = some o) (hg : Region.wanted o (yielded ops a.tmps) = true) (he : (execOp a.eval o).run P w = .halt (.panic v) w') (h : Q (.panic [{ v, recovered := false }]) a w') : wpOps P ops Q (i :: rest) a w := by
  simp only [wpOps, ho, hg, if_true]
  left
  unfold Oper.wp
  rw [he]
  exact h
end
def opsOf : Code → Array Oper
  | .region _ ops _ => ops
  | _ => #[]
def opAt (ops : Array Oper) (i : Nat) : Oper := (ops[i]?).getD { dst := none, op := .move (.const undef), type := 0, pos := default, after := #[], guard := none }

/-- what a call comes to -/
def EndL (P : Program) (S : FL) (fp : FP) (w : World) (y : S.outT) (e : Ending) (w' : World) : Prop :=
  ∃ (β' : Nat → Value) (vs : List Value), Rel P w fp vs.length β' (encOut S.outs y).2 { tmps := vs.toArray, defers := [] } w' ∧ e = endOf (encOut S.outs y).1 vs ∧
      ((∀ t n, (encOut S.outs y).1 ≠ .panic t n) → vs.length = S.res.length)

def finR (T : Tab) (S : FL) (e : AExit) (st : St) : Option S.outT :=
  match e with
  | .normal => none
  | e => finL T S e st

/-- the rest of a body by the interpreter -/
theorem rest_callsL {P : Program} (C : Ctx P) {fn : Func} {c : Code} {S : FL} {ann : Ann} {y : S.outT} {st : St} {a : Act} {w w1 : World} {fp : FP} {β : Nat → Value} (hres : fn.results.toList = S.res) (hrio : Nat.ble S.res.length ioN = true)
    (hoc : closedOuts S.outs = true) (hA : AnnOk P fn.ntmps c ann) (hdfs : fp.dfs = []) (h0 : exec C.T C.E fn.ntmps c ann (finL C.T S) st = some y) (R0 : Rel P w fp fn.ntmps β st a w1) : c.wp P (bodyPost P fn (EndL P S fp w y)) a w1 := by
  have hrio := nble.1 hrio
  have hfp : fp = ⟨fp.anc, fp.hb, []⟩ := by cases fp; simp only at hdfs; subst hdfs; rfl
  refine exec_sound C fn.ntmps h0 hA ⟨_, R0⟩ ?_
  intro ex st' a' w' h1 hp
  have key : ∀ l, resAVs C.T st' S.res = some l → decOut .ret { env := fun i => l[i]?, heap := st'.heap } S.outs = some y → bodyPost P fn (EndL P S fp w y) .ret a' w' := by
    intro l h2 h3
    obtain ⟨β', R'⟩ := hp
    have hl := resAVs_length h2
    rw [← hres] at h2
    obtain ⟨vs, h4, h5⟩ := run_results C R' h2
    obtain ⟨h6, h7⟩ := avs_get h5
    have R2 : Rel P w fp vs.length β' { env := fun i => l[i]?, heap := st'.heap } { tmps := vs.toArray, defers := [] } w' := by
      rw [hfp]
      exact R'.act rfl (by simp) (by rw [← h6, hl]; exact hrio) (fun t av ht => h7 t av ht)
    obtain ⟨h8, h9⟩ := decOut_spec (P := P) (w0 := w) (fp := fp) (nt := vs.length) (a := { tmps := vs.toArray, defers := [] }) (w := w') hoc h3
    obtain ⟨β2, R3⟩ := h9 ⟨_, R2⟩
    exact ⟨R'.defers.trans hdfs, _, h4, β2, vs, R3, by rw [h8]; rfl, fun _ => by omega⟩
  cases ex with
  | exit i => cases h1
  | normal =>
    simp only [finL] at h1
    split at h1
    · rename_i l h2; exact key l h2 h1
    · cases h1
  | ret =>
    simp only [finL] at h1
    split at h1
    · rename_i l h2; exact key l h2 h1
    · cases h1
  | panic t n =>
    simp only [finL] at h1
    obtain ⟨β', R'⟩ := hp
    have R2 : Rel P w fp 0 β' { env := fun _ => none, heap := st'.heap } { tmps := #[], defers := [] } w' := by
      rw [hfp]
      exact R'.act rfl rfl (Nat.zero_le _) (fun t av ht => by cases ht)
    obtain ⟨h8, h9⟩ := decOut_spec (P := P) (w0 := w) (fp := fp) (nt := 0) (a := { tmps := #[], defers := [] }) (w := w') hoc h1
    obtain ⟨β2, R3⟩ := h9 ⟨_, R2⟩
    refine ⟨R'.defers.trans hdfs, β2, [], R3, by rw [h8]; rfl, fun h => absurd h8 (h t n)⟩

/-- the same, of code that does not end by its end -/
theorem rest_callsR {P : Program} (C : Ctx P) {fn : Func} {c : Code} {S : FL} {ann : Ann} {y : S.outT} {st : St} {a : Act} {w w1 : World} {fp : FP} {β : Nat → Value} (hres : fn.results.toList = S.res) (hrio : Nat.ble S.res.length ioN = true)
    (hoc : closedOuts S.outs = true) (hA : AnnOk P fn.ntmps c ann) (hdfs : fp.dfs = []) (h0 : exec C.T C.E fn.ntmps c ann (finR C.T S) st = some y) (R0 : Rel P w fp fn.ntmps β st a w1) : c.wp P (Exit.then (fun _ _ => False) (bodyPost P fn (EndL P S fp w y))) a w1 := by
  have hrio := nble.1 hrio
  have hfp : fp = ⟨fp.anc, fp.hb, []⟩ := by cases fp; simp only at hdfs; subst hdfs; rfl
  refine exec_sound C fn.ntmps h0 hA ⟨_, R0⟩ ?_
  intro ex st' a' w' h1 hp
  have key : ∀ l, resAVs C.T st' S.res = some l → decOut .ret { env := fun i => l[i]?, heap := st'.heap } S.outs = some y → bodyPost P fn (EndL P S fp w y) .ret a' w' := by
    intro l h2 h3
    obtain ⟨β', R'⟩ := hp
    have hl := resAVs_length h2
    rw [← hres] at h2
    obtain ⟨vs, h4, h5⟩ := run_results C R' h2
    obtain ⟨h6, h7⟩ := avs_get h5
    have R2 : Rel P w fp vs.length β' { env := fun i => l[i]?, heap := st'.heap } { tmps := vs.toArray, defers := [] } w' := by
      rw [hfp]
      exact R'.act rfl (by simp) (by rw [← h6, hl]; exact hrio) (fun t av ht => h7 t av ht)
    obtain ⟨h8, h9⟩ := decOut_spec (P := P) (w0 := w) (fp := fp) (nt := vs.length) (a := { tmps := vs.toArray, defers := [] }) (w := w') hoc h3
    obtain ⟨β2, R3⟩ := h9 ⟨_, R2⟩
    exact ⟨R'.defers.trans hdfs, _, h4, β2, vs, R3, by rw [h8]; rfl, fun _ => by omega⟩
  cases ex with
  | exit i => cases h1
  | normal => cases h1
  | ret =>
    simp only [finR, finL] at h1
    split at h1
    · rename_i l h2; exact key l h2 h1
    · cases h1
  | panic t n =>
    simp only [finR, finL] at h1
    obtain ⟨β', R'⟩ := hp
    have R2 : Rel P w fp 0 β' { env := fun _ => none, heap := st'.heap } { tmps := #[], defers := [] } w' := by
      rw [hfp]
      exact R'.act rfl rfl (Nat.zero_le _) (fun t av ht => by cases ht)
    obtain ⟨h8, h9⟩ := decOut_spec (P := P) (w0 := w) (fp := fp) (nt := 0) (a := { tmps := #[], defers := [] }) (w := w') hoc h1
    obtain ⟨β2, R3⟩ := h9 ⟨_, R2⟩
    refine ⟨R'.defers.trans hdfs, β2, [], R3, by rw [h8]; rfl, fun h => absurd h8 (h t n)⟩
end Go.Abs
