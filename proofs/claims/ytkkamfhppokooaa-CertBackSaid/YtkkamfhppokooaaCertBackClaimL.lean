/- A certificate is read as what it was: for every input, CertBack returns true; no condition. -/
import Derived.Test.YtkkamfhppokooaaKBackL
import Derived.Test.YtkkamfhppokooaaAbsLawL
import Derived.Test.YtkkamfhppokooaaAbsDatL
import Derived.Test.YtkkamfhppokooaaRows
set_option linter.unusedVariables false
set_option linter.unusedSimpArgs false
namespace Go.Proofs.Ytkkamfhppokooaa.Back
open Go.ChangeShapes Go.WideShapes Go.ChangeAt Go.RowKit Go.Abs

theorem own : ownKnob Try.prog.godebug = none := by kernel_rfl
theorem laidOut : laidOutB Try.prog = true := by kernel_rfl

theorem has22 : HasD Try.prog 22 (.sl (.int .u8)) := .sl Try.underlying22 (by kernel_rfl) (by kernel_rfl) (.int Try.underlying5)
theorem has45 : HasD Try.prog 45 (.pair (.int .i64) (.pair (.bool) (.sl (.int .u8)))) := .st Try.underlying45 (by kernel_rfl) (.cons rfl (by kernel_rfl) (.int Try.underlying3) (.cons rfl (by kernel_rfl) (.bool Try.underlying4) (.one rfl (by kernel_rfl) has22)))
theorem has24 : HasD Try.prog 24 (.sl (.pair (.int .i64) (.pair (.bool) (.sl (.int .u8))))) := .sl Try.underlying24 (by kernel_rfl) (by kernel_rfl) has45
theorem has26 : HasD Try.prog 26 (.pair (.int .u64) (.pair (.str) (.pair (.str) (.pair (.sl (.int .u8)) (.pair (.sl (.pair (.int .i64) (.pair (.bool) (.sl (.int .u8))))) (.sl (.int .u8))))))) := .st Try.underlying26 (by kernel_rfl) (.cons rfl (by kernel_rfl) (.int Try.underlying23) (.cons rfl (by kernel_rfl) (.str Try.underlying9) (.cons rfl (by kernel_rfl) (.str Try.underlying9) (.cons rfl (by kernel_rfl) has22 (.cons rfl (by kernel_rfl) has24 (.one rfl (by kernel_rfl) has22))))))
theorem has37 : HasD Try.prog 37 (.pair (.pair (.int .u64) (.pair (.str) (.pair (.str) (.pair (.sl (.int .u8)) (.pair (.sl (.pair (.int .i64) (.pair (.bool) (.sl (.int .u8))))) (.sl (.int .u8))))))) (.pair (.bool) (.pair (.sl (.int .u8)) (.sl (.int .u8))))) := .st Try.underlying37 (by kernel_rfl) (.cons rfl (by kernel_rfl) has26 (.cons rfl (by kernel_rfl) (.bool Try.underlying4) (.cons rfl (by kernel_rfl) has22 (.one rfl (by kernel_rfl) has22))))
theorem walk {W : World} {v0 v1 : Value} {x0 : Ce × Bool × List Int × List Int} {x1 : List Int} (h0 : WfD dWholeD x0) (h1 : ∀ y ∈ x1, (Lit.int .u8 y).wf = true) (g1 : x1.length * 1 ≤ 140737488351232) (i0 : In W (.agg (encD dWholeD x0)) v0) (i1 : In W (.c (.fz (.int .u8) x1 none)) v1) :
    Calls Try.prog 5 #[v0, v1] W fun e W' => e = .returned (.bool true) ∧ Below W.heap.size W W' := by
  have h := law_call callsc5 (us := [v0, v1]) (x := ((flatW x0), x1)) (y := true) (w := W) rfl (Go.Abs.Back_law h0 h1 g1) rfl rfl rfl rfl rfl rfl ?_
  · exact h
  · intro t av ht
    simp only [varsEnvs, VS.envs, AS.enc, CS.enc, List.mem_cons, List.not_mem_nil, or_false] at ht
    rcases ht with e | e
    · cases e; exact ⟨v0, rfl, i0⟩
    · cases e; exact ⟨v1, rfl, i1⟩

set_option maxRecDepth 100000 in
theorem lifted (os : Os) (started : os.Started) (H : Type) (enc : TypeId × Value → H) :
    ReturnsInHanded {} Try.checked os 5 .any (Rows.certBackSpec.pre6 enc Try.prog Try.f5 Rows.certBackRow.domain false) (Rows.certBackSpec.post enc Try.prog Try.f5 false true false false) := by
  refine returnsInHanded_of_change_sized (C := Try.checked) own started (by kernel_rfl) Try.func5
    (ChangeSpec.witness6 (enc := enc) (C := Try.checked) false ⟨#[], #[.agg #[.int .u64 0, .string ByteArray.empty, .string ByteArray.empty, .slice none 0 0, .slice none 0 0, .slice none 0 0, .bool false, .slice none 0 0, .slice none 0 0], .slice none 0 0], []⟩ 8 (by kernel_rfl) (by kernel_rfl) (by kernel_rfl) (by kernel_rfl)) ?_
  intro W base args ds gs before hval0 hW hcnd hsz0 _
  have hval : ∀ (j : Nat) t v, Try.f5.params[j]? = some t → args[j]? = some v → Value.okWide Try.prog W .any base t v := hval0
  have hW' := hW
  obtain ⟨p, q, hA0, hV, rfl, hfz, hnd⟩ := hW
  have hA : DataW.TrodAll enc Try.prog W 0 (fun _ => true) true Try.f5.params.toList args.toList ds p := hA0
  have hsz : (DataW.weightsEach Try.prog (Try.f5.params.toList ++ Rows.certBackSpec.plain.varTypes Try.prog) (ds ++ gs)).all (· ≤ reachBytes) = true := hsz0
  rw [Try.params5] at hA hval hsz
  obtain ⟨v0, vs0, d0, ds0, p0, q0, hargs, rfl, rfl, h0, r0⟩ := trodAll_cons hA
  obtain ⟨v1, vs1, d1, ds1, p1, q1, rfl, rfl, rfl, h1, r1⟩ := trodAll_cons r0
  obtain ⟨rfl, rfl, rfl⟩ := trodAll_nil r1
  obtain rfl : args = #[v0, v1] := by cases args; simp_all
  obtain ⟨rfl, rfl⟩ := trodVars_none hV
  have k0 := h0
  have lt0 : ∀ x ∈ p0, x.block < W.heap.size := by obtain ⟨m, hm⟩ := k0; exact DataW.trod_lt m _ _ _ hm
  have k1 := h1
  have lt1 : ∀ x ∈ p1, x.block < W.heap.size := by obtain ⟨m, hm⟩ := k1; exact DataW.trod_lt m _ _ _ hm
  have hw0 : ∀ n ∈ DataW.weights Try.prog 37 d0, n ≤ reachBytes := fun n hn => by
    have := List.all_eq_true.1 hsz n (DataW.weights_mem_each (j := 0) rfl rfl n hn)
    simpa using this
  obtain ⟨f0, w0, i0, _⟩ := in_str none Try.underlying37 has37 (hval 0 37 v0 rfl rfl) h0 hw0
  have bo1 : Try.prog.bytesOf 5 = 1 := by kernel_rfl
  obtain ⟨f1, w1, g1, i1⟩ := in_ints_sz Try.underlying22 Try.underlying5 (by kernel_rfl) (hval 1 22 v1 rfl rfl) (fun el re hd => sized_slice hsz (j := 1) (t := 22) (e := 5) rfl (by rw [hd]; rfl) Try.underlying22) h1
  rw [bo1] at g1
  clear hA0 hval0
  refine (walk w0 w1 g1 i0 i1).mono fun e W' ⟨he, bel⟩ => ?_
  subst he
  exact ⟨_, rfl, _, _, _, [], _, [], hW', trodAll_mk1 (shut_bool Try.underlying4 _), (trodAll_cons_mk (Below.trod laidOut (by kernel_rfl) (of_decide_eq_true (by kernel_rfl)) k0 bel lt0) (trodAll_cons_mk (Below.trod laidOut (by kernel_rfl) (of_decide_eq_true (by kernel_rfl)) k1 bel lt1) trodAll_mk0)), rfl, bel.frame _, fun h => by cases h⟩

theorem over : Rows.certBackRow.holds Try.pinned (OpenSpec.ofChange Rows.certBackSpec) :=
  OpenClaim.holds_of_wide 5 Try.f5 rfl rfl rfl rfl rfl rfl rfl ⟨rfl, rfl, rfl, rfl, rfl⟩ rfl rfl rfl rfl rfl (by kernel_rfl) Try.func5 (by kernel_rfl)
    (of_decide_eq_true (by kernel_rfl)) (by unfold Func.isWrapper; first | (rw [if_pos (by decide +kernel)]; kernel_rfl) | (rw [if_neg (by decide +kernel)]; exact ⟨rfl, rfl⟩))
    (fun os started H enc _ => lifted os started H enc)

theorem proved : Rows.CertBackSaid := over
#print axioms proved
end Go.Proofs.Ytkkamfhppokooaa.Back
