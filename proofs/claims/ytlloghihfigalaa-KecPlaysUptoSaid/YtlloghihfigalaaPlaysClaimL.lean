/- Played side by side, the sponge and the reference's sponge tell the same. -/
import Derived.Test.YtlloghihfigalaaKPlays2L
import Derived.Test.YtlloghihfigalaaAbsDatL
import Derived.Deep.CondSized
import Derived.JoinedCond
import Derived.Test.YtlloghihfigalaaRows
set_option linter.unusedVariables false
set_option linter.unusedSimpArgs false
namespace Go.Proofs.Ytlloghihfigalaa.Plays
open Go.ChangeShapes Go.WideShapes Go.ChangeAt Go.RowKit Go.Abs

theorem own : ownKnob Try.prog.godebug = none := by kernel_rfl
theorem laidOut : laidOutB Try.prog = true := by kernel_rfl

theorem walk {W : World} {v0 v1 : Value} {x0 : Int} {x1 : List Go.Abs.Op} (h1 : ∀ o ∈ x1, Byt o.2.2) (g1 : opTot x1 ≤ 1048576) (l1 : x1.length ≤ 9000000000000000) (i0 : In W (.c (.int .i64 x0)) v0) (i1 : In W (.c (.fz (.pair (.int .i64) (.pair (.int .i64) (.sl (.int .u8)))) x1 none)) v1) :
    Calls Try.prog 6 #[v0, v1] W fun e W' => e = .returned (.bool true) ∧ Below W.heap.size W W' := by
  have h := law_call callsk6 (us := [v0, v1]) (x := (x0, x1)) (y := true) (w := W) rfl (Go.Abs.Plays_law h1 g1 l1) rfl rfl rfl rfl rfl rfl ?_
  · exact h
  · intro t av ht
    simp only [varsEnvs, VS.envs, AS.enc, CS.enc, List.mem_cons, List.not_mem_nil, or_false] at ht
    rcases ht with e | e
    · cases e; exact ⟨v0, rfl, i0⟩
    · cases e; exact ⟨v1, rfl, i1⟩

def bulk (H : Type) : Bulk H := ⟨Rows.uptoBulk, Rows.uptoBulkAll, by simp only [Rows.uptoBulkAll], fun d r => by simp only [Rows.uptoBulkAll], fun e s => by simp only [Rows.uptoBulk]; omega, fun p => by simp only [Rows.uptoBulk]; omega, fun k n => by simp only [Rows.uptoBulk]⟩

theorem mass_len : ∀ (l : List Int), massL (fun _ : Int => 1) l = l.length := by
  intro l
  induction l with
  | nil => rfl
  | cons x l ih => simp only [massL, ih, List.length_cons]; omega
def massOp (o : Go.Abs.Op) : Nat := 1 + (1 + massL (fun _ : Int => 1) o.2.2)
theorem mass_op : ∀ (l : List Go.Abs.Op), opTot l ≤ massL massOp l ∧ l.length ≤ massL massOp l := by
  intro l
  induction l with
  | nil => exact ⟨Nat.le_refl _, Nat.le_refl _⟩
  | cons o l ih =>
    have e : massOp o = 1 + (1 + o.2.2.length) := by unfold massOp; rw [mass_len]
    have e1 : massL massOp (o :: l) = massOp o + massL massOp l := rfl
    have e2 : opTot (o :: l) = o.2.2.length + opTot l := rfl
    have e3 : (o :: l).length = l.length + 1 := rfl
    rw [e1, e2, e3, e]
    omega

theorem has : HasD Try.prog 47 (.sl (.pair (.int .i64) (.pair (.int .i64) (.sl (.int .u8))))) :=
  .sl Try.underlying47 (by kernel_rfl) (by kernel_rfl) (.st3 Try.underlying56 (by kernel_rfl) rfl rfl rfl (by kernel_rfl) (by kernel_rfl) (by kernel_rfl) (.int Try.underlying3) (.int Try.underlying3) (.sl Try.underlying33 (by kernel_rfl) (by kernel_rfl) (.int Try.underlying5)))

theorem byt {os : List Go.Abs.Op} (h : WfD (.sl (.pair (.int .i64) (.pair (.int .i64) (.sl (.int .u8))))) os) : ∀ o ∈ os, Byt o.2.2 := by
  intro o ho
  refine Byt_mem.2 fun y hy => ?_
  have h1 := ((h.2 o ho).2.2).2 y hy
  simp [WfD, Lit.wf, IntKind.min, IntKind.max, IntKind.signed, IntKind.bits] at h1
  omega

set_option maxRecDepth 100000 in
theorem lifted (os : Os) (started : os.Started) (H : Type) (enc : TypeId × Value → H) (F0 : Stop.Interp) :
    ReturnsInHanded {} Try.checked os 6 .any ((Rows.OpenSpec.upto Rows.kecPlaysSpec).pre6 enc Try.prog Try.f6 Rows.kecPlaysUptoRow.domain false) (((Rows.OpenSpec.upto Rows.kecPlaysSpec).at F0).post enc Try.prog Try.f6 false true false false) := by
  refine returnsInHanded_of_cond_sized (C := Try.checked) (s := Rows.OpenSpec.upto Rows.kecPlaysSpec) (k := Rows.uptoSmall) rfl own started (by kernel_rfl) Try.func6
    (OpenSpec.witness (enc := enc) (C := Try.checked) (s := Rows.OpenSpec.upto Rows.kecPlaysSpec) (k := Rows.uptoSmall) rfl false ⟨#[], #[.int .i64 0, .slice none 0 0], []⟩ 8 (by kernel_rfl) (by kernel_rfl) (by kernel_rfl)
      (x := ([.lit (.int .i64 0), .nil], [], [])) (by kernel_rfl) (by kernel_rfl) (by kernel_rfl)) ?_
  intro W base args ds gs before hval0 hW _ hk hreach0 _
  have hval : ∀ (j : Nat) t v, Try.f6.params[j]? = some t → args[j]? = some v → Value.okWide Try.prog W .any base t v := hval0
  have hW' := hW
  obtain ⟨p, q, hA0, hV, rfl, hfz, hnd⟩ := hW
  have hA : DataW.TrodAll enc Try.prog W 0 (fun _ => true) true Try.f6.params.toList args.toList ds p := hA0
  have hreach : (DataW.weightsEach Try.prog (Try.f6.params.toList ++ (Rows.OpenSpec.upto Rows.kecPlaysSpec).bare.plain.varTypes Try.prog) (ds ++ gs)).all (· ≤ reachBytes) = true := hreach0
  rw [Try.params6] at hA hval hreach
  obtain ⟨v0, vs0, d0, ds0, p0, q0, hargs, rfl, rfl, h0, r0⟩ := trodAll_cons hA
  obtain ⟨v1, vs1, d1, ds1, p1, q1, rfl, rfl, rfl, h1, r1⟩ := trodAll_cons r0
  obtain ⟨rfl, rfl, rfl⟩ := trodAll_nil r1
  obtain rfl : args = #[v0, v1] := by cases args; simp_all
  obtain ⟨rfl, rfl⟩ := trodVars_none hV
  have k0 := h0
  have lt0 : ∀ x ∈ p0, x.block < W.heap.size := by obtain ⟨m, hm⟩ := k0; exact DataW.trod_lt m _ _ _ hm
  have k1 := h1
  have lt1 : ∀ x ∈ p1, x.block < W.heap.size := by obtain ⟨m, hm⟩ := k1; exact DataW.trod_lt m _ _ _ hm
  obtain ⟨f0, w0, i0⟩ := in_int Try.underlying3 (hval 0 3 v0 rfl rfl) h0
  have hw1 : ∀ n ∈ DataW.weights Try.prog 47 d1, n ≤ reachBytes := fun n hn => by
    have := List.all_eq_true.1 hreach n (DataW.weights_mem_each (j := 1) rfl rfl n hn)
    simpa using this
  obtain ⟨f1, w1, i1, m1⟩ := in_sl (some (bulk H)) has (hval 1 47 v1 rfl rfl) h1 hw1
  have hk' : Rows.uptoBulkAll [d0, d1] ≤ 1048576 := of_decide_eq_true hk
  have hb : massL massOp f1 ≤ Rows.uptoBulk d1 := m1 _ rfl
  have hm := mass_op f1
  have hk2 : Rows.uptoBulk d1 ≤ 1048576 := by
    simp only [Rows.uptoBulkAll] at hk'
    omega
  clear hA0 hval0
  refine (walk (byt w1) (by omega) (by omega) i0 i1).mono fun e W' ⟨he, bel⟩ => ?_
  subst he
  exact ⟨_, rfl, _, _, _, [], _, [], hW', trodAll_mk1 (shut_bool Try.underlying4 _), (trodAll_cons_mk (Below.trod laidOut (by kernel_rfl) (of_decide_eq_true (by kernel_rfl)) k0 bel lt0) (trodAll_cons_mk (Below.trod laidOut (by kernel_rfl) (of_decide_eq_true (by kernel_rfl)) k1 bel lt1) trodAll_mk0)), rfl, bel.frame _, fun h => by cases h⟩

theorem proved : Rows.KecPlaysUptoSaid :=
  OpenClaim.holds_of_cond 6 Try.f6 rfl rfl rfl rfl rfl rfl rfl ⟨rfl, rfl, rfl, rfl, rfl⟩ rfl rfl rfl rfl rfl (by kernel_rfl) Try.func6 (by kernel_rfl)
    (of_decide_eq_true (by kernel_rfl)) (by unfold Func.isWrapper; first | (rw [if_pos (by decide +kernel)]; kernel_rfl) | (rw [if_neg (by decide +kernel)]; exact ⟨rfl, rfl⟩))
    (fun os started H enc _ F0 => lifted os started H enc F0)
#print axioms proved
end Go.Proofs.Ytlloghihfigalaa.Plays
