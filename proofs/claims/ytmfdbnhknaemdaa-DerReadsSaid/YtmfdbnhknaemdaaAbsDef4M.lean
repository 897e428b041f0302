/- Deferred closures that recover, the rest of them by hand. -/
import Derived.Test.YtmfdbnhknaemdaaAbsDef3M
set_option linter.unusedVariables false
set_option linter.unusedSimpArgs false
namespace Go.Abs
universe u
open Go.RowKit

/-- how such a closure stands behind its first two operations -/
def act2 (nt t0 t1 : Nat) (us : List Value) (v : Value) : Act := ({ tmps := us.toArray ++ Array.replicate (nt - us.toArray.size) undef, defers := [] : Act }.put (some t0) v).put (some t1) v

theorem clo_callsDL2 {P : Program} {g : Nat} {fn : Func} {id : Nat} {ops : Array Oper} {rest : Code} {o0 o1 : Oper} {t0 t1 : Nat} {S : FL} {F : S.inT → Option S.outT} {u u' : FrameMode} {v : Value}
    (hf : P.funcs[g]? = some fn) (hb : fn.body = some (.seq (.region id ops false) rest)) (hs : List.range ops.size = [0, 1]) (h0 : ops[0]? = some o0) (h1 : ops[1]? = some o1) (hg0 : o0.guard = none) (hg1 : o1.guard = none)
    (hd0 : o0.dst = some t0) (hd1 : o1.dst = some t1) (ht0 : Nat.blt t0 fn.ntmps = true) (hrec : ∀ (a : Act) (w : World), (execOp a.eval o0).run P w = .ok .recover w)
    (hasg : ∀ (a : Act) (w : World), (execOp a.eval o1).run P w = .ok (.value (a.tmps.getD t0 undef)) w) (hu : Recovers u u' v)
    (hrest : ∀ (us : List Value) (x : S.inT) (y : S.outT) (w : World) (fp : FP) (β : Nat → Value), us.length = S.n → fp.dfs = [] → F x = some y → Rel P w fp us.length β (S.inp.enc x) { tmps := us.toArray, defers := [] } w →
      rest.wp P (bodyPost P fn (EndL P S fp w y)) (act2 fn.ntmps t0 t1 us v) w) : CallsDL P g S u u' F := by
  intro us x y w fp β hlen hdfs hF R
  refine callsD_of_wpS hf hb ?_
  intro c₀ cs hu0
  refine wpS_seq (wpS_region ?_)
  rw [hs]
  refine wpOpsS_rec (v := v) (cs' := { c₀ with mode := u' } :: cs) h0 (wanted_none hg0) (hrec _ _) ?_ ?_
  · rcases hu with ⟨rfl, rfl, rfl⟩ | ⟨rfl, rfl⟩
    · refine .inr ⟨recoverD_ret hu0, rfl, ?_⟩
      rw [← hu0]
    · exact .inl (recoverD_pan hu0)
  refine wpOpsS_step h1 (wanted_none hg1) ?_
  rw [hd0]
  refine wp_val (hasg _ _) ?_
  have hget : ({ tmps := us.toArray ++ Array.replicate (fn.ntmps - us.toArray.size) undef, defers := [] : Act }.put (some t0) v).tmps.getD t0 undef = v := by
    have hlt : t0 < (us.toArray ++ Array.replicate (fn.ntmps - us.toArray.size) undef).size := by
      have := nblt.1 ht0
      simp
      omega
    simp only [Act.put]
    rw [Array.getD_eq_getD_getElem?, Array.getElem?_setIfInBounds_self_of_lt hlt]
    rfl
  rw [hd1, hget]
  show rest.wpS P _ (act2 fn.ntmps t0 t1 us v) _ w
  refine wpS_of_wp ?_
  refine wp_mono (hrest us x y w fp β hlen hdfs hF R) ?_
  intro e a w'' h
  cases e with
  | normal => exact ⟨h.1, u', rfl, h.2.elim fun v h => ⟨v, h.1, rfl, h.2⟩⟩
  | ret => exact ⟨h.1, u', rfl, h.2.elim fun v h => ⟨v, h.1, rfl, h.2⟩⟩
  | panic ch => exact ⟨h.1, u', rfl, rfl, h.2⟩
  | outgrown => exact ⟨u', rfl, h⟩
  | exit i => exact h.elim
  | goto l => exact h.elim
end Go.Abs
