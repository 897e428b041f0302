/- The law's own check (awake), and the laws of the permutation and of the nil sponge. -/
import Derived.Test.YtlloghihfigalaaKSpec2L
set_option linter.unusedVariables false
set_option linter.unusedSimpArgs false
set_option maxRecDepth 100000
namespace Go.Abs
open Go.RowKit

noncomputable def outL (g : Nat → Int) (n : Nat) : List Int := (List.range n).map fun i => IntKind.u8.wrap (shrI .u64 (g (i / 8)) ((8 * (i % 8) : Nat) : Int))
theorem e11 : Fk11 1 = some (.inl ((1, (fun _ => 0), 0, false, 32), 0)) := by kernel_rfl
theorem e12 : Fk12 ((1, (fun _ => 0), 0, false, 32), []) = some (0, (1, (fun _ => 0), 0, false, 32)) := by
  have h : Fk12 ((1, (fun _ => 0), 0, false, 32), []) = (loopO stepk12_0 ([], 0, 0, (1, (fun _ => 0), 0, false, 32))).bind fun z => some (0, (z.1, z.2.1, z.2.2.1, z.2.2.2.1, z.2.2.2.2)) := by kernel_rfl
  rw [h, iterO_loop (n := 1) (t := (1, (fun _ => 0), 0, false, 32)) (by kernel_rfl)]
  rfl
theorem el (g : Nat → Int) : loopO stepk13_0 (32, 136, 32, 0, (1, g, 0, true, 32), List.replicate 32 0) = some (32, (1, g, 32, true, 32), outL g 32) := iterO_loop (n := 33) (by kernel_rfl)
noncomputable def st0 : Nat → Int := upd (upd (fun _ => 0) 0 (bitsXor .u64 0 (shlI .u64 6 0))) 16 (bitsXor .u64 0 (shlI .u64 128 56))
theorem e13 : Fk13 ((1, (fun _ => 0), 0, false, 32), 32) = some (outL (perm9 st0) 32, 0, (1, perm9 st0, 32, true, 0)) := by
  have h : Fk13 ((1, (fun _ => 0), 0, false, 32), 32) = (Fk9 st0).bind fun y4 => (loopO stepk13_0 (32, 136, 32, 0, (1, y4, 0, true, 32), List.replicate 32 0)).bind fun z => if (decide (z.2.1.2.2.2.2 ≥ 0)) = true then some (z.2.2, 0, (z.2.1.1, z.2.1.2.1, z.2.1.2.2.1, z.2.1.2.2.2.1, (IntKind.i64.wrap (z.2.1.2.2.2.2 - z.1)))) else some (z.2.2, 0, (z.2.1.1, z.2.1.2.1, z.2.1.2.2.1, z.2.1.2.2.2.1, z.2.1.2.2.2.2)) := by kernel_rfl
  rw [h, Fk9_eq]
  simp only [Option.bind_some]
  rw [el]
  simp only [Option.bind_some]
  rw [if_pos (by decide)]
  rfl
theorem st0_Q : Q st0 (ofL25 [6, 0, 0, 0, 0, 0, 0, 0, 0, 0, 0, 0, 0, 0, 0, 0, 9223372036854775808, 0, 0, 0, 0, 0, 0, 0, 0]) := all25 ⟨by kernel_rfl, by decide⟩ ⟨by kernel_rfl, by decide⟩ ⟨by kernel_rfl, by decide⟩ ⟨by kernel_rfl, by decide⟩ ⟨by kernel_rfl, by decide⟩ ⟨by kernel_rfl, by decide⟩ ⟨by kernel_rfl, by decide⟩ ⟨by kernel_rfl, by decide⟩ ⟨by kernel_rfl, by decide⟩ ⟨by kernel_rfl, by decide⟩ ⟨by kernel_rfl, by decide⟩ ⟨by kernel_rfl, by decide⟩ ⟨by kernel_rfl, by decide⟩ ⟨by kernel_rfl, by decide⟩ ⟨by kernel_rfl, by decide⟩ ⟨by kernel_rfl, by decide⟩ ⟨by kernel_rfl, by decide⟩ ⟨by kernel_rfl, by decide⟩ ⟨by kernel_rfl, by decide⟩ ⟨by kernel_rfl, by decide⟩ ⟨by kernel_rfl, by decide⟩ ⟨by kernel_rfl, by decide⟩ ⟨by kernel_rfl, by decide⟩ ⟨by kernel_rfl, by decide⟩ ⟨by kernel_rfl, by decide⟩
theorem all_eq (k n : Int) (xs : List Int) (s : Int × (Nat → Int) × Int × Bool × Int) (e : Int) (h : Fk11 k = some (.inl (s, e))) : Fk31 (k, xs, n) = (Fk12 (s, xs)).bind fun z => (Fk13 (z.2, n)).bind fun u => some u.1 := by
  have h1 : Fk31 (k, xs, n) = (Fk11 k).bind fun x => Sum.casesOn (motive := fun _ => Option (List Int)) x (fun y => (Fk12 ((y.1.1, y.1.2.1, y.1.2.2.1, y.1.2.2.2.1, y.1.2.2.2.2), xs)).bind fun z => (Fk13 ((z.2.1, z.2.2.1, z.2.2.2.1, z.2.2.2.2.1, z.2.2.2.2.2), n)).bind fun u => some u.1) (fun _ => none) := by kernel_rfl
  rw [h1, h]
  rfl
theorem e31 : Fk31 (1, [], 32) = some (outL (perm9 st0) 32) := by
  rw [all_eq 1 32 [] _ _ e11, e12]
  simp only [Option.bind_some]
  rw [e13]
  rfl
theorem awake_true : Fk8 () = some true := by
  have h : Fk8 () = (Fk31 (1, [], 32)).bind fun y1 => if (32 : Int) ≤ (y1.length : Int) then (if ((y1.getD 0 0) == 167) = true then if ((y1.getD 1 0) == 255) = true then some ((y1.getD 2 0) == 198) else some false else some false) else none := by
    have h1 : Fk8 () = (Fk17 []).bind fun y1 => if ((y1 0) == 167) = true then if ((y1 1) == 255) = true then some ((y1 2) == 198) else some false else some false := by kernel_rfl
    have h2 : Fk17 [] = (Fk31 (1, [], 32)).bind fun y1 => if (32 : Int) ≤ (y1.length : Int) then some (fun j => y1.getD (0 + j) 0) else none := by kernel_rfl
    rw [h1, h2]
    cases Fk31 (1, [], 32) with
    | none => rfl
    | some y =>
      simp only [Option.bind_some]
      split
      · rfl
      · rfl
  rw [h, e31]
  simp only [Option.bind_some]
  have hl : ((outL (perm9 st0) 32).length : Int) = 32 := by simp [outL]
  rw [hl, if_pos (by decide)]
  have hp : perm9 st0 0 = 7410425521722818471 := by
    have := (perm9_Q st0_Q 0 (by decide)).1
    rw [perm_empty 0 (by decide)] at this
    exact this
  have g : ∀ i : Nat, i < 8 → (outL (perm9 st0) 32).getD i 0 = IntKind.u8.wrap (shrI .u64 7410425521722818471 ((8 * i : Nat) : Int)) := by
    intro i hi
    have h1 : i < 32 := by omega
    have h2 : i / 8 = 0 := by omega
    have h3 : i % 8 = i := by omega
    simp only [outL, List.getD_eq_getElem?_getD, List.getElem?_map, List.getElem?_range h1, Option.map_some, Option.getD_some, h2, h3, hp]
  rw [g 0 (by decide), g 1 (by decide), g 2 (by decide)]
  decide +kernel

/-! ### KecPermutes -/
def wf64 (a : Nat → Int) : Prop := ∀ i, i < 25 → 0 ≤ a i ∧ a i < 18446744073709551616
theorem Q_of {a : Nat → Int} (h : wf64 a) : Q a (fun j => (a j).toNat) := fun j hj => by
  have := h j hj
  refine ⟨by simp; omega, by simp; omega⟩
theorem permutes_law (a0 a1 : Nat → Int) (h0 : wf64 a0) (h1 : wf64 a1) : Fk3 (a0, a1) = some true := by
  have h : Fk3 (a0, a1) = (Fk8 ()).bind fun y1 => (Fk9 a0).bind fun y2 => (Fk9 a1).bind fun y3 => if y1 = true then (Fk10 a0).bind fun y4 => if (arrEq 25 y2 y4) = true then (Fk10 a1).bind fun y5 => if (arrEq 25 y3 y5) = true then some ((arrEq 25 y2 y3) == (arrEq 25 a0 a1)) else some false else some false else some false := by kernel_rfl
  have q0 := perm9_Q (Q_of h0)
  have q1 := perm9_Q (Q_of h1)
  have r0 := perm10_Q (Q_of h0)
  have r1 := perm10_Q (Q_of h1)
  rw [h, awake_true]
  simp only [Option.bind_some]
  rw [Fk9_eq, Fk9_eq]
  simp only [Option.bind_some]
  rw [if_pos trivial, KRef.Fk10_eq]
  simp only [Option.bind_some]
  rw [if_pos (arrEq_true fun i hi => by rw [(q0 i hi).1, (r0 i hi).1]), KRef.Fk10_eq]
  simp only [Option.bind_some]
  rw [if_pos (arrEq_true fun i hi => by rw [(q1 i hi).1, (r1 i hi).1])]
  congr 1
  rw [beq_iff_eq]
  by_cases e : ∀ i, i < 25 → a0 i = a1 i
  · rw [arrEq_true e]
    refine arrEq_true fun i hi => ?_
    have c : ∀ {L L' : Nat → Nat}, (∀ j, j < 25 → L j = L' j) → ∀ j, j < 25 → permN L j = permN L' j := permN_congr
    rw [(q0 i hi).1, (q1 i hi).1, c (fun j hj => by rw [e j hj]) i hi]
  · rw [arrEq_false e]
    refine arrEq_false fun k => e ?_
    have k' : ∀ j, j < 25 → permN (fun j => (a0 j).toNat) j = permN (fun j => (a1 j).toNat) j := fun j hj => by
      have := k j hj
      rw [(q0 j hj).1, (q1 j hj).1] at this
      omega
    intro i hi
    have := permN_inj (Q_of h0).bd (Q_of h1).bd k' i hi
    rw [((Q_of h0) i hi).1, ((Q_of h1) i hi).1]
    exact congrArg _ this
/-! ### what mkclaim asks -/
theorem Permutes_law {x0 x1 : Nat → Int} (h0 : ∀ i, i < 25 → (Lit.int .u64 (x0 i)).wf = true) (h1 : ∀ i, i < 25 → (Lit.int .u64 (x1 i)).wf = true) : Fk3 (x0, x1) = some true := by
  have key : ∀ x : Nat → Int, (∀ i, i < 25 → (Lit.int .u64 (x i)).wf = true) → wf64 x := fun x h i hi => by
    have := h i hi
    simp [Lit.wf, IntKind.min, IntKind.max, IntKind.signed, IntKind.bits] at this
    omega
  exact permutes_law x0 x1 (key x0 h0) (key x1 h1)
theorem Nil_law {x0 : List Int} {x1 : Int} (h0 : ∀ y ∈ x0, (Lit.int .u8 y).wf = true) (g0 : x0.length * 1 ≤ 140737488351232) (h1 : (Lit.int .i64 x1).wf = true) : Fk7 (x0, x1) = some true := by
  have h : Fk7 (x0, x1) = (Fk8 ()).bind fun y1 => if y1 = true then some true else some false := by kernel_rfl
  rw [h, awake_true]
  rfl
end Go.Abs
