/- PackHints: hints are laid and read as the document says, and one form alone is taken: the law returns true, and each argument reads as it did. No further condition. -/
import Derived.Test.YthihjipdkhmgkaaHLawL
import Derived.Test.YthihjipdkhmgkaaHInL
import Derived.Test.YthihjipdkhmgkaaRows
set_option linter.unusedVariables false
set_option linter.unusedSimpArgs false
namespace Go.Proofs.Ythihjipdkhmgkaa.Hints
set_option maxRecDepth 100000
open Go.ChangeShapes Go.WideShapes Go.ChangeAt Go.RowKit Go.Abs

/-- six polynomials of zeros, and no bytes -/
def inp : Input := ⟨#[], #[.agg (List.replicate 1536 (.int .i32 0)).toArray, .slice none 0 0], []⟩

theorem types24 : Try.prog.cellTypes Try.prog.depth 24 = some (List.replicate 1536 21) := by kernel_rfl
theorem size24 : Try.prog.cellsOf 24 = 1536 := by kernel_rfl
theorem zero21 (w : World) : Cell.okWideB Try.prog w 21 (.int .i32 0) = true := by kernel_rfl
theorem nil25 (w : World) : Value.okWideB Try.prog w 25 (.slice none 0 0) = true := by kernel_rfl
theorem row24 (w : World) (base : Nat) : Value.okWide Try.prog w .any base 24 (.agg (List.replicate 1536 (.int .i32 0)).toArray) := by
  unfold Value.okWide
  rw [Try.underlying24]
  refine ⟨_, rfl, by rw [size24]; simp, _, types24, ⟨1, by simp⟩, fun i v hv => ?_⟩
  have hv2 : (List.replicate 1536 (Value.int .i32 0))[i]? = some v := by simpa using hv
  rw [List.getElem?_replicate] at hv2
  by_cases hi : i < 1536
  · rw [if_pos hi] at hv2
    cases hv2
    refine ⟨21, ?_, Cell.okWide_of_okWideB (zero21 w)⟩
    rw [List.length_replicate, Nat.mod_eq_of_lt hi, List.getElem?_replicate, if_pos hi]
  · rw [if_neg hi] at hv2; cases hv2

theorem okIn (w : World) (base : Nat) : Input.okWide Try.prog w .any base 3 ⟨#[], inp.args, []⟩ := by
  refine ⟨fun o ho => by simp at ho, fun g hg => by simp at hg, by kernel_rfl, Try.f3, Try.func3, by kernel_rfl, by kernel_rfl, by kernel_rfl, by kernel_rfl, fun j t v ht hv => ?_⟩
  rw [Try.params3] at ht
  match j, ht, hv with
  | 0, ht, hv =>
    cases (show some 24 = some t from ht)
    cases (show some (Value.agg (List.replicate 1536 (.int .i32 0)).toArray) = some v from hv)
    exact row24 w base
  | 1, ht, hv =>
    cases (show some 25 = some t from ht)
    cases (show some (Value.slice none 0 0) = some v from hv)
    exact Value.okWide_of_okWideB (nil25 w)
  | j + 2, ht, hv => simp at ht

section
variable {H : Type} {enc : TypeId × Value → H}
theorem vars_ok (os : Os) : (World.plainHolding Try.checked.prog os inp).variablesB Try.checked.prog = true := by kernel_rfl
theorem heap_ok (os : Os) : ((World.plainHolding Try.checked.prog os inp).heap.toList.drop Try.checked.prog.globals.size).take ((begin Try.checked.prog (fun _ _ => 0) default).world.heap.size - Try.checked.prog.globals.size) = (begin Try.checked.prog (fun _ _ => 0) default).world.heap.toList.drop Try.checked.prog.globals.size := by kernel_rfl
theorem pre_ok (os : Os) : Rows.packHintsSpec.preB enc Try.checked.prog Try.f3 Rows.packHintsRow.domain false (World.plainHolding Try.checked.prog os inp).memory inp.args 8 = true := by kernel_rfl
theorem size_ok (os : Os) : Rows.packHintsSpec.sizedB enc Try.checked.prog Try.f3 false (World.plainHolding Try.checked.prog os inp).memory inp.args 8 = true := by kernel_rfl

theorem start (os : Os) : ∃ (w : World) (tape : Tape) (i : Input), w.os = os ∧ (w.forCall tape i).Shaped Try.checked.prog ∧ i.vars = [] ∧ Input.okWide Try.checked.prog (w.forCall tape i) .any w.heap.size 3 i ∧
      Rows.packHintsSpec.pre6 enc Try.checked.prog Try.f3 Rows.packHintsRow.domain false (w.forCall tape i).memory i.args ∧ ({} : Assume).holds Try.checked.prog (lone (Frame.enter Try.checked.prog 3 i.args .normal) [] (w.forCall tape i)) :=
  ⟨World.holding Try.checked.prog os inp, fun _ _ => 0, ⟨#[], inp.args, []⟩, rfl, World.shaped_of_B (vars_ok os) (heap_ok os), rfl, okIn _ _, ⟨ChangeSpec.pre_of_preB (pre_ok os), sizedMet_of_sizedB (size_ok os)⟩, by
    simp only [Assume.holds]
    exact ⟨by simp, by simp, fun _ => Modest.zero, by simp, by simp⟩⟩
end

theorem own : ownKnob Try.prog.godebug = none := by kernel_rfl
theorem laidOut : laidOutB Try.prog = true := by kernel_rfl

theorem walk {W : World} {v0 v1 : Value} {x0 : Nat → Int} {x1 : List Int} (h1 : ∀ y ∈ x1, (Lit.int .u8 y).wf = true) (g1 : x1.length * 1 ≤ 140737488351232) (i0 : In W (.agg [.ints .i32 1536 x0]) v0) (i1 : In W (.c (.fz (.int .u8) x1 none)) v1) :
    Calls Try.prog 3 #[v0, v1] W fun e W' => e = .returned (.bool true) ∧ Below W.heap.size W W' := by
  have h := law_call callsh3 (us := [v0, v1]) (x := (x0, x1)) (y := true) (w := W) rfl (Go.Abs.Hints_law h1 g1) rfl rfl rfl rfl rfl rfl ?_
  · exact h
  · intro t av ht
    simp only [varsEnvs, VS.envs, AS.enc, CS.enc, List.mem_cons, List.not_mem_nil, or_false] at ht
    rcases ht with e | e
    · cases e; exact ⟨v0, rfl, i0⟩
    · cases e; exact ⟨v1, rfl, i1⟩

set_option maxRecDepth 100000 in
theorem lifted (os : Os) (started : os.Started) (H : Type) (enc : TypeId × Value → H) :
    ReturnsInHanded {} Try.checked os 3 .any (Rows.packHintsSpec.pre6 enc Try.prog Try.f3 Rows.packHintsRow.domain false) (Rows.packHintsSpec.post enc Try.prog Try.f3 false true false false) := by
  refine returnsInHanded_of_change_sized (C := Try.checked) own started (by kernel_rfl) Try.func3
    (start os) ?_
  intro W base args ds gs before hval0 hW hcnd hsz0 _
  have hval : ∀ (j : Nat) t v, Try.f3.params[j]? = some t → args[j]? = some v → Value.okWide Try.prog W .any base t v := hval0
  have hW' := hW
  obtain ⟨p, q, hA0, hV, rfl, hfz, hnd⟩ := hW
  have hA : DataW.TrodAll enc Try.prog W 0 (fun _ => true) true Try.f3.params.toList args.toList ds p := hA0
  have hsz : (DataW.weightsEach Try.prog (Try.f3.params.toList ++ Rows.packHintsSpec.plain.varTypes Try.prog) (ds ++ gs)).all (· ≤ reachBytes) = true := hsz0
  rw [Try.params3] at hA hval hsz
  obtain ⟨v0, vs0, d0, ds0, p0, q0, hargs, rfl, rfl, h0, r0⟩ := trodAll_cons hA
  obtain ⟨v1, vs1, d1, ds1, p1, q1, rfl, rfl, rfl, h1, r1⟩ := trodAll_cons r0
  obtain ⟨rfl, rfl, rfl⟩ := trodAll_nil r1
  obtain rfl : args = #[v0, v1] := by cases args; simp_all
  obtain ⟨rfl, rfl⟩ := trodVars_none hV
  have k0 := h0
  have lt0 : ∀ x ∈ p0, x.block < W.heap.size := by obtain ⟨m, hm⟩ := k0; exact DataW.trod_lt m _ _ _ hm
  have k1 := h1
  have lt1 : ∀ x ∈ p1, x.block < W.heap.size := by obtain ⟨m, hm⟩ := k1; exact DataW.trod_lt m _ _ _ hm
  obtain ⟨f0, i0⟩ := in_array2 Try.underlying24 Try.underlying23 Try.underlying21 (by kernel_rfl) (by kernel_rfl) (by kernel_rfl) (by omega) (hval 0 24 v0 rfl rfl) h0
  have bo1 : Try.prog.bytesOf 5 = 1 := by kernel_rfl
  obtain ⟨f1, w1, g1, i1⟩ := in_ints_sz Try.underlying25 Try.underlying5 (by kernel_rfl) (hval 1 25 v1 rfl rfl) (fun el re hd => sized_slice hsz (j := 1) (t := 25) (e := 5) rfl (by rw [hd]; rfl) Try.underlying25) h1
  rw [bo1] at g1
  clear hA0 hval0
  refine (walk  w1 g1 i0 i1).mono fun e W' ⟨he, bel⟩ => ?_
  subst he
  exact ⟨_, rfl, _, _, _, [], _, [], hW', trodAll_mk1 (shut_bool Try.underlying4 _), (trodAll_cons_mk (Below.trod laidOut (by kernel_rfl) (of_decide_eq_true (by kernel_rfl)) k0 bel lt0) (trodAll_cons_mk (Below.trod laidOut (by kernel_rfl) (of_decide_eq_true (by kernel_rfl)) k1 bel lt1) trodAll_mk0)), rfl, bel.frame _, fun h => by cases h⟩

theorem over : Rows.packHintsRow.holds Try.pinned (OpenSpec.ofChange Rows.packHintsSpec) :=
  OpenClaim.holds_of_wide 3 Try.f3 rfl rfl rfl rfl rfl rfl rfl ⟨rfl, rfl, rfl, rfl, rfl⟩ rfl rfl rfl rfl rfl (by kernel_rfl) Try.func3 (by kernel_rfl)
    (of_decide_eq_true (by kernel_rfl)) (by unfold Func.isWrapper; first | (rw [if_pos (by decide +kernel)]; kernel_rfl) | (rw [if_neg (by decide +kernel)]; exact ⟨rfl, rfl⟩))
    (fun os started H enc _ => lifted os started H enc)

theorem proved : Rows.PackHintsSaid := over
#print axioms proved
end Go.Proofs.Ythihjipdkhmgkaa.Hints
