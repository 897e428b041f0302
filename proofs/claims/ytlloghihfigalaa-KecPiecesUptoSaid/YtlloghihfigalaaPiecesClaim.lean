/- However a message is cut and the output asked for, the bytes are the same. -/
import Derived.Test.YtlloghihfigalaaKPieces
import Derived.Test.YtlloghihfigalaaAbsLaw2
import Derived.Deep.CondSized
import Derived.JoinedCond
import Derived.Test.YtlloghihfigalaaRows
set_option linter.unusedVariables false
set_option linter.unusedSimpArgs false
namespace Go.Proofs.Ytlloghihfigalaa.Pieces
open Go.ChangeShapes Go.WideShapes Go.ChangeAt Go.RowKit Go.Deep Go.Abs

theorem own : ownKnob Try.prog.godebug = none := by kernel_rfl
theorem laidOut : laidOutB Try.prog = true := by kernel_rfl

theorem walk {W : World} {v0 v1 v2 : Value} {x0 : List (List Int)} {x1 : List Int} {x2 : Int} (h0 : ∀ c ∈ x0, ∀ y ∈ c, (Lit.int .u8 y).wf = true) (g0 : tot x0 ≤ 1048576) (i0 : In W (.c (.fz (.sl (.int .u8)) x0 none)) v0) (i1 : In W (.c (.fz (.int .i64) x1 none)) v1) (i2 : In W (.c (.int .i64 x2)) v2) :
    Calls Try.prog 4 #[v0, v1, v2] W fun e W' => e = .returned (.bool true) ∧ Below W.heap.size W W' := by
  have h := law_call callsk4 (us := [v0, v1, v2]) (x := (x0, x1, x2)) (y := true) (w := W) ?_ rfl (Go.Abs.Pieces_law x0 x1 x2 h0 g0) ?_
  · exact h
  · exact fun st l h => true_only h
  · intro t av ht
    simp only [psEnc, List.mem_cons, List.not_mem_nil, or_false] at ht
    rcases ht with e | e | e
    · cases e; exact ⟨v0, rfl, i0⟩
    · cases e; exact ⟨v1, rfl, i1⟩
    · cases e; exact ⟨v2, rfl, i2⟩

theorem bulk_lits {H : Type} {k : IntKind} : ∀ (zs : List Int), Rows.uptoBulkAll (lits (H := H) k zs) = zs.length := by
  intro zs
  induction zs with
  | nil => rfl
  | cons z zs ih =>
    show Rows.uptoBulk (.lit (.int k z)) + Rows.uptoBulkAll (lits k zs) = _
    rw [ih]
    simp only [Rows.uptoBulk, List.length_cons]
    omega
theorem bulk_rows {H : Type} {k : IntKind} {A : Nat → Option Addr} {L : Nat → Nat} {Z : Nat → List Int} : ∀ (l : List Nat), (∀ r ∈ l, A r = none → (Z r).take (L r) = []) →
    tot (l.map fun r => (Z r).take (L r)) ≤ Rows.uptoBulkAll (l.map fun r => intRow (H := H) k (A r) (L r) (Z r)) := by
  intro l
  induction l with
  | nil => intro _; exact Nat.le_refl _
  | cons r l ih =>
    intro h
    have h1 := ih fun r hr => h r (by simp [hr])
    have h2 : ((Z r).take (L r)).length ≤ Rows.uptoBulk (intRow (H := H) k (A r) (L r) (Z r)) := by
      cases hA : A r with
      | none => rw [h r (by simp) hA]; exact Nat.zero_le _
      | some a =>
        show _ ≤ Rows.uptoBulk (.slice (lits k ((Z r).take (L r))) (lits k ((Z r).drop (L r))))
        simp only [Rows.uptoBulk]
        rw [bulk_lits]
        omega
    show ((Z r).take (L r)).length + tot (l.map fun r => (Z r).take (L r)) ≤ Rows.uptoBulk (intRow (H := H) k (A r) (L r) (Z r)) + Rows.uptoBulkAll (l.map fun r => intRow (H := H) k (A r) (L r) (Z r))
    omega

set_option maxRecDepth 100000 in
theorem lifted (os : Os) (started : os.Started) (H : Type) (enc : TypeId × Value → H) (F0 : Stop.Interp) :
    ReturnsInHanded {} Try.checked os 4 .any ((Rows.OpenSpec.upto Rows.kecPiecesSpec).pre6 enc Try.prog Try.f4 Rows.kecPiecesUptoRow.domain false) (((Rows.OpenSpec.upto Rows.kecPiecesSpec).at F0).post enc Try.prog Try.f4 false true false false) := by
  refine returnsInHanded_of_cond_sized (C := Try.checked) (s := Rows.OpenSpec.upto Rows.kecPiecesSpec) (k := Rows.uptoSmall) rfl own started (by kernel_rfl) Try.func4
    (OpenSpec.witness (enc := enc) (C := Try.checked) (s := Rows.OpenSpec.upto Rows.kecPiecesSpec) (k := Rows.uptoSmall) rfl false ⟨#[], #[.slice none 0 0, .slice none 0 0, .int .i64 0], []⟩ 8 (by kernel_rfl) (by kernel_rfl) (by kernel_rfl)
      (x := ([.nil, .nil, .lit (.int .i64 0)], [], [])) (by kernel_rfl) (by kernel_rfl) (by kernel_rfl)) ?_
  intro W base args ds gs before hval0 hW _ hk hreach _
  have hval : ∀ (j : Nat) t v, Try.f4.params[j]? = some t → args[j]? = some v → Value.okWide Try.prog W .any base t v := hval0
  have hW' := hW
  obtain ⟨p, q, hA0, hV, rfl, hfz, hnd⟩ := hW
  have hA : DataW.TrodAll enc Try.prog W 0 (fun _ => true) true Try.f4.params.toList args.toList ds p := hA0
  rw [Try.params4] at hA hval
  obtain ⟨v0, vs0, d0, ds0, p0, q0, hargs, rfl, rfl, h0, r0⟩ := trodAll_cons hA
  obtain ⟨v1, vs1, d1, ds1, p1, q1, rfl, rfl, rfl, h1, r1⟩ := trodAll_cons r0
  obtain ⟨v2, vs2, d2, ds2, p2, q2, rfl, rfl, rfl, h2, r2⟩ := trodAll_cons r1
  obtain ⟨rfl, rfl, rfl⟩ := trodAll_nil r2
  obtain rfl : args = #[v0, v1, v2] := by cases args; simp_all
  obtain ⟨rfl, rfl⟩ := trodVars_none hV
  have k0 := h0
  have lt0 : ∀ x ∈ p0, x.block < W.heap.size := by obtain ⟨m, hm⟩ := k0; exact DataW.trod_lt m _ _ _ hm
  have k1 := h1
  have lt1 : ∀ x ∈ p1, x.block < W.heap.size := by obtain ⟨m, hm⟩ := k1; exact DataW.trod_lt m _ _ _ hm
  have k2 := h2
  have lt2 : ∀ x ∈ p2, x.block < W.heap.size := by obtain ⟨m, hm⟩ := k2; exact DataW.trod_lt m _ _ _ hm
  obtain ⟨f0, w0, g0, i0⟩ := in_rows Try.underlying27 Try.underlying33 Try.underlying5 (by kernel_rfl) (by kernel_rfl) (hval 0 27 v0 rfl rfl) h0
  obtain ⟨f1, w1, g1, i1⟩ := in_ints Try.underlying28 Try.underlying3 (by kernel_rfl) (hval 1 28 v1 rfl rfl) h1
  obtain ⟨f2, w2, i2⟩ := in_int Try.underlying3 (hval 2 3 v2 rfl rfl) h2
  have ht : tot f0 ≤ 1048576 := by
    have hk' : Rows.uptoBulkAll [d0, d1, d2] ≤ 1048576 := of_decide_eq_true hk
    have hk2 : Rows.uptoBulk d0 ≤ 1048576 := by
      simp only [Rows.uptoBulkAll] at hk'
      omega
    rcases g0 with rfl | ⟨len, A, L, Z, sp, rfl, rfl, hn⟩
    · exact Nat.zero_le _
    · have hb := bulk_rows (H := H) (k := .u8) (A := A) (L := L) (Z := Z) (List.range len) (fun r hr => hn r (List.mem_range.1 hr))
      simp only [Rows.uptoBulk] at hk2
      omega
  clear hA0 hval0
  refine (walk w0 ht i0 i1 i2).mono fun e W' ⟨he, bel⟩ => ?_
  subst he
  exact ⟨_, rfl, _, _, _, [], _, [], hW', trodAll_mk1 (shut_bool Try.underlying4 _), (trodAll_cons_mk (Below.trod laidOut (by kernel_rfl) (of_decide_eq_true (by kernel_rfl)) k0 bel lt0) (trodAll_cons_mk (Below.trod laidOut (by kernel_rfl) (of_decide_eq_true (by kernel_rfl)) k1 bel lt1) (trodAll_cons_mk (Below.trod laidOut (by kernel_rfl) (of_decide_eq_true (by kernel_rfl)) k2 bel lt2) trodAll_mk0))), rfl, bel.frame _, fun h => by cases h⟩

theorem proved : Rows.KecPiecesUptoSaid :=
  OpenClaim.holds_of_cond 4 Try.f4 rfl rfl rfl rfl rfl rfl rfl ⟨rfl, rfl, rfl, rfl, rfl⟩ rfl rfl rfl rfl rfl (by kernel_rfl) Try.func4 (by kernel_rfl)
    (of_decide_eq_true (by kernel_rfl)) (by unfold Func.isWrapper; first | (rw [if_pos (by decide +kernel)]; kernel_rfl) | (rw [if_neg (by decide +kernel)]; exact ⟨rfl, rfl⟩))
    (fun os started H enc _ F0 => lifted os started H enc F0)
#print axioms proved
end Go.Proofs.Ytlloghihfigalaa.Pieces
