/- The function that puts what was recovered into an error: two shapes of its argument. -/
import Derived.Test.YtmfdbnhknaemdaaAbsDef2M
set_option linter.unusedVariables false
set_option linter.unusedSimpArgs false
namespace Go.Abs
universe u
open Go.RowKit

def numI (pt : Nat) : Value → Option Int
  | .iface t (.agg cs) => bif Nat.beq t pt then (match cs.toList with | [.int .i64 n] => some n | _ => none) else none
  | _ => none
def isNilI : Value → Bool
  | .nilIface => true
  | _ => false

theorem numI_spec {pt : Nat} {v : Value} {n : Int} (h : numI pt v = some n) : v = .iface pt (.agg #[.int .i64 n]) := by
  unfold numI at h
  split at h
  · rename_i t cs
    obtain ⟨h1, h2⟩ := cond_some h
    have h1 := nbeq.1 h1
    subst h1
    split at h2
    · rename_i m hm
      cases h2
      have : cs = #[.int .i64 n] := by apply Array.toList_inj.1; exact hm
      rw [this]
    · cases h2
  · cases h
theorem isNilI_spec {v : Value} (h : isNilI v = true) : v = .nilIface := by cases v <;> first | rfl | (cases h; done)

def caughtEnt (pt : Nat) (S : FL) (F : Int → S.inT → Option S.outT) : Ent :=
  ⟨fun d l h k => match l with
    | [.c (.val v), b] => (match numI pt v with
      | some n => (funEntL S false (F n)).k d [.c (.val v), b] h k
      | none => bif isNilI v then k ⟨.tup [], [], []⟩ else none)
    | _ => none, false⟩

theorem opAt_all {ops : Array Oper} {i k : Nat} (h : Nat.ble (i + k) ops.size = true) : ∀ j o, ((List.range' i k).map (opAt ops))[j]? = some o → ops[i + j]? = some o := by
  intro j o hj
  have h := nble.1 h
  rw [List.getElem?_map] at hj
  cases hr : (List.range' i k)[j]? with
  | none => rw [hr] at hj; cases hj
  | some m =>
    rw [hr] at hj
    simp only [Option.map_some, Option.some.injEq] at hj
    obtain ⟨hlt, _⟩ := List.getElem?_eq_some_iff.1 hr
    have hlt : j < k := by simpa using hlt
    rw [List.getElem?_range' hlt] at hr
    simp only [Nat.one_mul, Option.some.injEq] at hr
    subst hr
    have hb : i + j < ops.size := by omega
    rw [← hj]
    simp [opAt, hb]
theorem avBool {h : Heap} {β : Nat → Value} {w : World} {b : Bool} {v : Value} (e : v = .bool b) : AVRel h β w (.c (.bool b)) v := by simp only [AVRel, CVRel]; exact e
theorem avNum {h : Heap} {β : Nat → Value} {w : World} {n : Int} {v : Value} (e : v = .agg #[.int .i64 n]) : AVRel h β w (.agg [.int .i64 n]) v := by
  simp only [AVRel, SegsRel, CVRel]; exact ⟨[.int .i64 n], e, .int .i64 n, [], rfl, rfl, rfl, rfl⟩
theorem noCuts {P : Program} {nt : Nat} {c : Code} : AnnOk P nt c .none := annOk_of_cuts (fun x hx => absurd hx (by show x ∉ ([] : List (List Nat × LEnt)); simp))

theorem avEq {h : Heap} {β : Nat → Value} {w : World} {av : AV} {v v' : Value} (H : AVRel h β w av v) (e : v' = v) : AVRel h β w av v' := by rw [e]; exact H
theorem wpOps_end {P : Program} {ops : Array Oper} {c : Code} {Q : Exit → Act → World → Prop} {a : Act} {w : World} (h : c.wp P Q a w) : wpOps P ops (Exit.then (c.wp P Q) Q) [] a w := h

theorem defer_run {P : Program} {a : Act} {w : World} {o : Oper} {t g : Nat} {ats : Array TypeId} {vs : Array Value} (hop : o.op = .defer { callee := .value (.tmp t), args := #[], argTypes := ats }) (hv : a.tmps.getD t undef = .func (.func g) #[] vs) :
    (execOp a.eval o).run P w = .ok (.defer { target := .fn (.func g) vs, args := #[] }) w := by
  have ef : a.eval (.tmp t) = .func (.func g) #[] vs := hv
  unfold execOp
  simp [hop, resolve, Deferred.ofValue, ef]

theorem funEntL_nat {S : FL} {fr : Bool} {F : S.inT → Option S.outT} {ρ : Type} {d : Nat} {l : List AV} {h : HeapT} {k : Delta → Option ρ} : (funEntL S fr F).k d l h k = ((funEntL S fr F).k d l h some).bind k := by
  simp only [funEntL]
  cases Nat.beq l.length S.n with
  | false => rfl
  | true =>
    simp only [cond_true]
    cases S.inp.decN (callSt l h) (rhoOf (nmL S l h)) (nilOf (nmL S l h)) with
    | none => rfl
    | some p =>
      obtain ⟨x, gs⟩ := p
      simp only
      cases F x with
      | none => rfl
      | some y => exact leaveK_nat

theorem caught_ok {P : Program} {f : Nat} {fn : Func} {c : Code} {pt : Nat} {S : FL} {F : Int → S.inT → Option S.outT} (hf : P.funcs[f]? = some fn) (hname : (fn.name == "runtime.NumGoroutine") = false) (hb : fn.body = some c) (hok : okL S = true)
    (Hn : ∀ (n : Int) (pv : Value) (x : S.inT) (y : S.outT) (w : World) (fp : FP) (β : Nat → Value), F n x = some y → fp.dfs = [] →
      Rel P w fp 2 β (S.inp.enc x) { tmps := #[.iface pt (.agg #[.int .i64 n]), pv], defers := [] } w → Calls P f #[.iface pt (.agg #[.int .i64 n]), pv] w (EndL P S fp w y))
    (H0 : ∀ (pv : Value) (w : World), Calls P f #[.nilIface, pv] w fun e w' => e = .returned (.tuple #[]) ∧ w' = w) : EntOk P f (caughtEnt pt S F) := by
  refine ⟨fun d l h k => ?_, fun h => (by cases h), fun o d l us δ next Q a1 a2 a3 a4 a5 a6 a7 a8 => ?_⟩
  · simp only [caughtEnt]
    split
    · split
      · exact funEntL_nat
      · cases isNilI _ with
        | true => rfl
        | false => rfl
    · rfl
  · rename_i w0 fp nt β st a w
    simp only [caughtEnt] at a6
    split at a6
    · rename_i v b
      have a2' := a2
      simp only [AVsRel] at a2'
      obtain ⟨v1, r, rfl, hv1, v2, r2, rfl, hv2, rfl⟩ := a2'
      simp only [AVRel, CVRel] at hv1
      subst hv1
      split at a6
      · rename_i n hn
        have hv := numI_spec hn
        subst hv
        refine call_L hf hname hb hok (fun x y fp' β' h1 h2 h3 => Hn n v2 x y w fp' β' h1 h2 h3) a1 a2 a3 a4 a5 a6 a7 a8
      · obtain ⟨h1, h2⟩ := cond_some a6
        have hv := isNilI_spec h1
        subst hv
        cases h2
        unfold Oper.wp
        rw [a1, MuLone.run_callFunc_enter hf hname hb, Oper.upon_enter]
        refine (H0 v2 w).mono ?_
        rintro e w' ⟨rfl, rfl⟩
        refine a7 (fun t n h => by cases h) _ _ ⟨β, ?_⟩
        exact a4.pure a5 (by simp only [AVRel]; exact ⟨[], rfl, by simp only [AVsRel]⟩)
    · cases a6
end Go.Abs
