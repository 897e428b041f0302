/- Any bytes are read as the certificate that the document says they are, or refused as it says, twice, and the first answer may be written over between: for every input, CertReads returns true; no condition. -/
import Derived.Test.YtkkamfhppokooaaRLaw2R
import Derived.Test.YtkkamfhppokooaaRows
set_option linter.unusedVariables false
set_option linter.unusedSimpArgs false
namespace Go.Proofs.Ytkkamfhppokooaa.CertReads
open Go.ChangeShapes Go.WideShapes Go.ChangeAt Go.RowKit Go.Abs

theorem own : ownKnob Try.prog.godebug = none := by kernel_rfl
theorem laidOut : laidOutB Try.prog = true := by kernel_rfl

theorem walk {W : World} {v0 : Value} {x0 : List Int} (h0 : ∀ y ∈ x0, (Lit.int .u8 y).wf = true) (g0 : x0.length * 1 ≤ 140737488351232) (i0 : In W (.c (.fz (.int .u8) x0 none)) v0) :
    Calls Try.prog 3 #[v0] W fun e W' => e = .returned (.bool true) ∧ Below W.heap.size W W' := by
  have h := law_call callsc3 (us := [v0]) (x := x0) (y := true) (w := W) rfl (Go.Abs.CertReads_law h0 g0) rfl rfl rfl rfl rfl rfl ?_
  · exact h
  · intro t av ht
    simp only [varsEnvs, VS.envs, AS.enc, CS.enc, List.mem_cons, List.not_mem_nil, or_false] at ht
    cases ht; exact ⟨v0, rfl, i0⟩

set_option maxRecDepth 100000 in
theorem lifted (os : Os) (started : os.Started) (H : Type) (enc : TypeId × Value → H) :
    ReturnsInHanded {} Try.checked os 3 .any (Rows.certReadsSpec.pre6 enc Try.prog Try.f3 Rows.certReadsRow.domain false) (Rows.certReadsSpec.post enc Try.prog Try.f3 false true false false) := by
  refine returnsInHanded_of_change_sized (C := Try.checked) own started (by kernel_rfl) Try.func3
    (ChangeSpec.witness6 (enc := enc) (C := Try.checked) false ⟨#[], #[.slice none 0 0], []⟩ 8 (by kernel_rfl) (by kernel_rfl) (by kernel_rfl) (by kernel_rfl)) ?_
  intro W base args ds gs before hval0 hW hcnd hsz0 _
  have hval : ∀ (j : Nat) t v, Try.f3.params[j]? = some t → args[j]? = some v → Value.okWide Try.prog W .any base t v := hval0
  have hW' := hW
  obtain ⟨p, q, hA0, hV, rfl, hfz, hnd⟩ := hW
  have hA : DataW.TrodAll enc Try.prog W 0 (fun _ => true) true Try.f3.params.toList args.toList ds p := hA0
  have hsz : (DataW.weightsEach Try.prog (Try.f3.params.toList ++ Rows.certReadsSpec.plain.varTypes Try.prog) (ds ++ gs)).all (· ≤ reachBytes) = true := hsz0
  rw [Try.params3] at hA hval hsz
  obtain ⟨v0, vs0, d0, ds0, p0, q0, hargs, rfl, rfl, h0, r0⟩ := trodAll_cons hA
  obtain ⟨rfl, rfl, rfl⟩ := trodAll_nil r0
  obtain rfl : args = #[v0] := by cases args; simp_all
  obtain ⟨rfl, rfl⟩ := trodVars_none hV
  have k0 := h0
  have lt0 : ∀ x ∈ p0, x.block < W.heap.size := by obtain ⟨m, hm⟩ := k0; exact DataW.trod_lt m _ _ _ hm
  have bo0 : Try.prog.bytesOf 5 = 1 := by kernel_rfl
  obtain ⟨f0, w0, g0, i0⟩ := in_ints_sz Try.underlying22 Try.underlying5 (by kernel_rfl) (hval 0 22 v0 rfl rfl) (fun el re hd => sized_slice hsz (j := 0) (t := 22) (e := 5) rfl (by rw [hd]; rfl) Try.underlying22) h0 (fun b off h => hfz b off (by simp [h]))
  rw [bo0] at g0
  clear hA0 hval0
  refine (walk w0 g0 i0).mono fun e W' ⟨he, bel⟩ => ?_
  subst he
  exact ⟨_, rfl, _, _, _, [], _, [], hW', trodAll_mk1 (shut_bool Try.underlying4 _), (trodAll_cons_mk (Below.trod laidOut (by kernel_rfl) (of_decide_eq_true (by kernel_rfl)) k0 bel lt0) trodAll_mk0), rfl, bel.frame _, fun h => by cases h⟩

theorem over : Rows.certReadsRow.holds Try.pinned (OpenSpec.ofChange Rows.certReadsSpec) :=
  OpenClaim.holds_of_wide 3 Try.f3 rfl rfl rfl rfl rfl rfl rfl ⟨rfl, rfl, rfl, rfl, rfl⟩ rfl rfl rfl rfl rfl (by kernel_rfl) Try.func3 (by kernel_rfl)
    (of_decide_eq_true (by kernel_rfl)) (by unfold Func.isWrapper; first | (rw [if_pos (by decide +kernel)]; kernel_rfl) | (rw [if_neg (by decide +kernel)]; exact ⟨rfl, rfl⟩))
    (fun os started H enc _ => lifted os started H enc)

theorem proved : Rows.CertReadsSaid := over
#print axioms proved
end Go.Proofs.Ytkkamfhppokooaa.CertReads
