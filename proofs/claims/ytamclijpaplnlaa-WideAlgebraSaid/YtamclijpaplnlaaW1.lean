import Derived.Test.YtamclijpaplnlaaAbsExt
import Derived.Test.YtamclijpaplnlaaChecked
import Derived.KernelRfl
set_option linter.unusedVariables false
set_option maxRecDepth 100000
namespace Go.Abs
def wtab : Tab := [
  (3, ⟨.int .i64, 1, 8, [.int .i64 0]⟩),
  (5, ⟨.int .u8, 1, 1, [.int .u8 0]⟩),
  (9, ⟨.str, 1, 16, [.str ByteArray.empty]⟩),
  (22, ⟨.int .u64, 1, 8, [.int .u64 0]⟩),
  (24, ⟨.array 4 22, 4, 32, [.ints .u64 4 (fun _ => 0)]⟩),
  (33, ⟨.slice 5, 1, 24, [.val (.slice none 0 0)]⟩),
  (38, ⟨.array 32 5, 32, 32, [.ints .u8 32 (fun _ => 0)]⟩),
  (45, ⟨.array 8 22, 8, 64, [.ints .u64 8 (fun _ => 0)]⟩),
  (57, ⟨.slice 59, 1, 24, [.val (.slice none 0 0)]⟩),
  (59, ⟨.int .u32, 1, 4, [.int .u32 0]⟩),
  (66, ⟨.slice 22, 1, 24, [.val (.slice none 0 0)]⟩)]
theorem wtabOk : TabOk Go.Proofs.Try.prog wtab := tabChk_ok (by kernel_rfl)
theorem wdep : 4 ≤ (Go.Proofs.Try.prog).depth := by
  have : Nat.ble 4 ((Go.Proofs.Try.prog).depth) = true := by kernel_rfl
  exact Nat.le_of_ble_eq_true this
theorem word : (Go.Proofs.Try.prog).follows .mixedOrders = true := by kernel_rfl
def wstr0 : ByteArray := ⟨#[0, 1, 2, 2, 3, 3, 3, 3, 4, 4, 4, 4, 4, 4, 4, 4, 5, 5, 5, 5, 5, 5, 5, 5, 5, 5, 5, 5, 5, 5, 5, 5, 6, 6, 6, 6, 6, 6, 6, 6, 6, 6, 6, 6, 6, 6, 6, 6, 6, 6, 6, 6, 6, 6, 6, 6, 6, 6, 6, 6, 6, 6, 6, 6, 7, 7, 7, 7, 7, 7, 7, 7, 7, 7, 7, 7, 7, 7, 7, 7, 7, 7, 7, 7, 7, 7, 7, 7, 7, 7, 7, 7, 7, 7, 7, 7, 7, 7, 7, 7, 7, 7, 7, 7, 7, 7, 7, 7, 7, 7, 7, 7, 7, 7, 7, 7, 7, 7, 7, 7, 7, 7, 7, 7, 7, 7, 7, 7, 8, 8, 8, 8, 8, 8, 8, 8, 8, 8, 8, 8, 8, 8, 8, 8, 8, 8, 8, 8, 8, 8, 8, 8, 8, 8, 8, 8, 8, 8, 8, 8, 8, 8, 8, 8, 8, 8, 8, 8, 8, 8, 8, 8, 8, 8, 8, 8, 8, 8, 8, 8, 8, 8, 8, 8, 8, 8, 8, 8, 8, 8, 8, 8, 8, 8, 8, 8, 8, 8, 8, 8, 8, 8, 8, 8, 8, 8, 8, 8, 8, 8, 8, 8, 8, 8, 8, 8, 8, 8, 8, 8, 8, 8, 8, 8, 8, 8, 8, 8, 8, 8, 8, 8, 8, 8, 8, 8, 8, 8, 8, 8, 8, 8, 8, 8, 8, 8, 8, 8, 8, 8, 8, 8, 8, 8, 8, 8]⟩
noncomputable def wE0 : List (Nat × Ent) := []
theorem wE0_ok : EntsOk Go.Proofs.Try.prog (ofL wE0) := .nil _

/-! ### math/bits.Sub64 -/
theorem entw37 : EntOk Go.Proofs.Try.prog 37 (funEnt S64 sub64F) := sub64_ok (fn := Go.Proofs.Try.f37) (by kernel_rfl) (by kernel_rfl) (by kernel_rfl) (by kernel_rfl) (by kernel_rfl)
noncomputable def Ew37 : List (Nat × Ent) := (37, funEnt S64 sub64F) :: wE0
theorem Ew37_ok : EntsOk Go.Proofs.Try.prog (ofL Ew37) := .cons entw37 wE0_ok

/-! ### barbican/wide.Sub -/
noncomputable def bodyw11 : Code := (Go.Proofs.Try.f11.body).getD .skip
abbrev lw11_0 : Lay := ⟨[(2, .ptr 2 0 4), (3, .ptr 3 0 4), (4, .ptr 4 0 4)], [.env 6 (.c (.int .u64)), .env 8 (.c (.int .i64)), .reg 2 (.cells [.ints .u64 4]), .reg 3 (.cells [.ints .u64 4]), .reg 4 (.cells [.ints .u64 4])], [(2, 2), (3, 3), (4, 4)]⟩
abbrev ow11_0 : List (AExit × Lay) := [(.exit 0, ⟨[(2, .ptr 2 0 4), (4, .ptr 4 0 4)], [.env 6 (.c (.int .u64)), .reg 2 (.cells [.ints .u64 4]), .reg 4 (.cells [.ints .u64 4])], [(2, 2), (4, 4)]⟩)]
noncomputable def stepw11_0 : Int × Int × (Nat → Int) × (Nat → Int) × (Nat → Int) → Option ((Int × Int × (Nat → Int) × (Nat → Int) × (Nat → Int)) ⊕ ((Int × (Nat → Int) × (Nat → Int))))
  | (t6, t8, r2, r3, r4) =>
    if (decide (t8 < 4)) = true then
      if (0 : Int) ≤ t8 ∧ t8 < ((4 : Int) : Int) then
        if (0 : Int) ≤ t8 ∧ t8 < ((4 : Int) : Int) then
          (sub64F ((r2 t8.toNat), (r3 t8.toNat), t6)).bind fun (y1, y2) =>
            if (0 : Int) ≤ t8 ∧ t8 < ((4 : Int) : Int) then
              some (.inl (y2, (IntKind.i64.wrap (t8 + 1)), (upd r2 t8.toNat y1), r3, r4))
            else none
        else none
      else none
    else
      some (.inr (t6, r2, r4))

noncomputable def annw11_0 : Ann := .none
noncomputable def Fw11 : (Nat → Int) × (Nat → Int) → Option ((Nat → Int) × Int)
  | (a0, a1) =>
    (loopO stepw11_0 (0, 0, a0, a1, (fun _ => 0))).bind fun (z3, z4, z5) =>
      some (z4, (IntKind.i64.wrap z3))

noncomputable def annw11 : Ann := (.seq .none (.seq .none (.seq (.seq .none (.seq (.cut (cutEnt lw11_0 ow11_0 (loopO stepw11_0))) .none)) .none)))
abbrev Sw11 : FSh := ⟨[.val (.agg [.ints .u64 4]), .val (.agg [.ints .u64 4])], [.val (.agg [.ints .u64 4]), .val (.c (.int .i64))], [.cell 4 24, .tmp 5]⟩
noncomputable def cw11 : Ctx Go.Proofs.Try.prog := ⟨wtab, ofL Ew37, wtabOk, Ew37_ok, wdep, word⟩
theorem eqw11_0 : ∀ s : lw11_0.T, exec wtab (ofL Ew37) 28 (Code.at' [1, 1, 0, 1, 0, 0] bodyw11) annw11_0 (fun e st => loopEnd (l := lw11_0) (outs := ow11_0) e st) (lw11_0.enc s) = stepw11_0 s := by
  rintro ⟨t6, t8, r2, r3, r4⟩
  kernel_rfl
theorem okw11_0 : LOk Go.Proofs.Try.prog 28 (cutEnt lw11_0 ow11_0 (loopO stepw11_0)) (Code.at' [1, 1, 0, 1, 0] bodyw11) := by
  have e : Code.at' [1, 1, 0, 1, 0] bodyw11 = .loop (Code.at' [1, 1, 0, 1, 0, 0] bodyw11) := by kernel_rfl
  rw [e]
  refine loop_ok cw11 28 rfl rfl (annOk_of_cuts ?_) eqw11_0
  intro x hx
  exact absurd hx (by show x ∉ ([] : List (List Nat × LEnt)); simp)

theorem eqw11 : ∀ x : psT Sw11.ps, exec wtab (ofL Ew37) 28 bodyw11 annw11 (fin wtab Sw11) (argSt Sw11 x) = Fw11 x := by
  rintro ⟨a0, a1⟩
  kernel_rfl
theorem callsw11 : CallsAs Go.Proofs.Try.prog cw11 11 Sw11 Fw11 := by
  refine fun_calls (fn := Go.Proofs.Try.f11) (c := bodyw11) (ann := annw11) cw11 (by kernel_rfl) (by kernel_rfl) (by kernel_rfl) (by decide) (annOk_of_cuts ?_) eqw11
  have hc : Ann.cuts annw11 = [([1, 1, 0, 1, 0], (cutEnt lw11_0 ow11_0 (loopO stepw11_0)))] := by kernel_rfl
  rw [hc]
  intro x hx
  simp only [List.mem_cons, List.not_mem_nil, or_false] at hx
  rcases hx with rfl
  · have e : Code.at' [1, 1, 0, 1, 0] bodyw11 = Code.at' [1, 1, 0, 1, 0] bodyw11 := by kernel_rfl
    rw [e]; exact okw11_0

theorem entw11 : EntOk Go.Proofs.Try.prog 11 (funEnt Sw11 Fw11) := fun_ok cw11 (fn := Go.Proofs.Try.f11) (c := bodyw11) (by kernel_rfl) (by kernel_rfl) (by kernel_rfl) rfl rfl (by decide) callsw11
noncomputable def Ew11 : List (Nat × Ent) := (11, funEnt Sw11 Fw11) :: Ew37
theorem Ew11_ok : EntsOk Go.Proofs.Try.prog (ofL Ew11) := .cons entw11 Ew37_ok

/-! ### math/bits.Add64 -/
theorem entw36 : EntOk Go.Proofs.Try.prog 36 (funEnt S64 add64F) := add64_ok (fn := Go.Proofs.Try.f36) (by kernel_rfl) (by kernel_rfl) (by kernel_rfl) (by kernel_rfl) (by kernel_rfl)
noncomputable def Ew36 : List (Nat × Ent) := (36, funEnt S64 add64F) :: Ew11
theorem Ew36_ok : EntsOk Go.Proofs.Try.prog (ofL Ew36) := .cons entw36 Ew11_ok

/-! ### barbican/wide.Add -/
noncomputable def bodyw10 : Code := (Go.Proofs.Try.f10.body).getD .skip
abbrev lw10_0 : Lay := ⟨[(2, .ptr 2 0 4), (3, .ptr 3 0 4), (4, .ptr 4 0 4)], [.env 6 (.c (.int .u64)), .env 8 (.c (.int .i64)), .reg 2 (.cells [.ints .u64 4]), .reg 3 (.cells [.ints .u64 4]), .reg 4 (.cells [.ints .u64 4])], [(2, 2), (3, 3), (4, 4)]⟩
abbrev ow10_0 : List (AExit × Lay) := [(.exit 0, ⟨[(2, .ptr 2 0 4), (4, .ptr 4 0 4)], [.env 6 (.c (.int .u64)), .reg 2 (.cells [.ints .u64 4]), .reg 4 (.cells [.ints .u64 4])], [(2, 2), (4, 4)]⟩)]
noncomputable def stepw10_0 : Int × Int × (Nat → Int) × (Nat → Int) × (Nat → Int) → Option ((Int × Int × (Nat → Int) × (Nat → Int) × (Nat → Int)) ⊕ ((Int × (Nat → Int) × (Nat → Int))))
  | (t6, t8, r2, r3, r4) =>
    if (decide (t8 < 4)) = true then
      if (0 : Int) ≤ t8 ∧ t8 < ((4 : Int) : Int) then
        if (0 : Int) ≤ t8 ∧ t8 < ((4 : Int) : Int) then
          (add64F ((r2 t8.toNat), (r3 t8.toNat), t6)).bind fun (y1, y2) =>
            if (0 : Int) ≤ t8 ∧ t8 < ((4 : Int) : Int) then
              some (.inl (y2, (IntKind.i64.wrap (t8 + 1)), (upd r2 t8.toNat y1), r3, r4))
            else none
        else none
      else none
    else
      some (.inr (t6, r2, r4))

noncomputable def annw10_0 : Ann := .none
noncomputable def Fw10 : (Nat → Int) × (Nat → Int) → Option ((Nat → Int) × Int)
  | (a0, a1) =>
    (loopO stepw10_0 (0, 0, a0, a1, (fun _ => 0))).bind fun (z3, z4, z5) =>
      some (z4, (IntKind.i64.wrap z3))

noncomputable def annw10 : Ann := (.seq .none (.seq .none (.seq (.seq .none (.seq (.cut (cutEnt lw10_0 ow10_0 (loopO stepw10_0))) .none)) .none)))
abbrev Sw10 : FSh := ⟨[.val (.agg [.ints .u64 4]), .val (.agg [.ints .u64 4])], [.val (.agg [.ints .u64 4]), .val (.c (.int .i64))], [.cell 4 24, .tmp 5]⟩
noncomputable def cw10 : Ctx Go.Proofs.Try.prog := ⟨wtab, ofL Ew36, wtabOk, Ew36_ok, wdep, word⟩
theorem eqw10_0 : ∀ s : lw10_0.T, exec wtab (ofL Ew36) 28 (Code.at' [1, 1, 0, 1, 0, 0] bodyw10) annw10_0 (fun e st => loopEnd (l := lw10_0) (outs := ow10_0) e st) (lw10_0.enc s) = stepw10_0 s := by
  rintro ⟨t6, t8, r2, r3, r4⟩
  kernel_rfl
theorem okw10_0 : LOk Go.Proofs.Try.prog 28 (cutEnt lw10_0 ow10_0 (loopO stepw10_0)) (Code.at' [1, 1, 0, 1, 0] bodyw10) := by
  have e : Code.at' [1, 1, 0, 1, 0] bodyw10 = .loop (Code.at' [1, 1, 0, 1, 0, 0] bodyw10) := by kernel_rfl
  rw [e]
  refine loop_ok cw10 28 rfl rfl (annOk_of_cuts ?_) eqw10_0
  intro x hx
  exact absurd hx (by show x ∉ ([] : List (List Nat × LEnt)); simp)

theorem eqw10 : ∀ x : psT Sw10.ps, exec wtab (ofL Ew36) 28 bodyw10 annw10 (fin wtab Sw10) (argSt Sw10 x) = Fw10 x := by
  rintro ⟨a0, a1⟩
  kernel_rfl
theorem callsw10 : CallsAs Go.Proofs.Try.prog cw10 10 Sw10 Fw10 := by
  refine fun_calls (fn := Go.Proofs.Try.f10) (c := bodyw10) (ann := annw10) cw10 (by kernel_rfl) (by kernel_rfl) (by kernel_rfl) (by decide) (annOk_of_cuts ?_) eqw10
  have hc : Ann.cuts annw10 = [([1, 1, 0, 1, 0], (cutEnt lw10_0 ow10_0 (loopO stepw10_0)))] := by kernel_rfl
  rw [hc]
  intro x hx
  simp only [List.mem_cons, List.not_mem_nil, or_false] at hx
  rcases hx with rfl
  · have e : Code.at' [1, 1, 0, 1, 0] bodyw10 = Code.at' [1, 1, 0, 1, 0] bodyw10 := by kernel_rfl
    rw [e]; exact okw10_0

theorem entw10 : EntOk Go.Proofs.Try.prog 10 (funEnt Sw10 Fw10) := fun_ok cw10 (fn := Go.Proofs.Try.f10) (c := bodyw10) (by kernel_rfl) (by kernel_rfl) (by kernel_rfl) rfl rfl (by decide) callsw10
noncomputable def Ew10 : List (Nat × Ent) := (10, funEnt Sw10 Fw10) :: Ew36
theorem Ew10_ok : EntsOk Go.Proofs.Try.prog (ofL Ew10) := .cons entw10 Ew36_ok

/-! ### math/bits.Len64 -/
noncomputable def bodyw40 : Code := (Go.Proofs.Try.f40.body).getD .skip
noncomputable def Fw40 : Int → Option (Int)
  | a0 =>
    if (decide (a0 ≥ 4294967296)) = true then
      if (decide ((shrI .u64 a0 32) ≥ 65536)) = true then
        if (decide ((shrI .u64 (shrI .u64 a0 32) 16) ≥ 256)) = true then
          let x1 : Int := (IntKind.u8.wrap (shrI .u64 (shrI .u64 (shrI .u64 a0 32) 16) 8))
          if 0 ≤ x1 ∧ x1 < (wstr0.size : Int) then
            let x2 : Int := (IntKind.i64.wrap (56 + (IntKind.i64.wrap (strAt wstr0 x1))))
            some x2
          else none
        else
          if 0 ≤ (IntKind.u8.wrap (shrI .u64 (shrI .u64 a0 32) 16)) ∧ (IntKind.u8.wrap (shrI .u64 (shrI .u64 a0 32) 16)) < (wstr0.size : Int) then
            let x3 : Int := (strAt wstr0 (IntKind.u8.wrap (shrI .u64 (shrI .u64 a0 32) 16)))
            some (IntKind.i64.wrap (48 + (IntKind.i64.wrap x3)))
          else none
      else
        if (decide ((shrI .u64 a0 32) ≥ 256)) = true then
          if 0 ≤ (IntKind.u8.wrap (shrI .u64 (shrI .u64 a0 32) 8)) ∧ (IntKind.u8.wrap (shrI .u64 (shrI .u64 a0 32) 8)) < (wstr0.size : Int) then
            let x4 : Int := (strAt wstr0 (IntKind.u8.wrap (shrI .u64 (shrI .u64 a0 32) 8)))
            some (IntKind.i64.wrap (40 + (IntKind.i64.wrap x4)))
          else none
        else
          if 0 ≤ (IntKind.u8.wrap (shrI .u64 a0 32)) ∧ (IntKind.u8.wrap (shrI .u64 a0 32)) < (wstr0.size : Int) then
            let x5 : Int := (IntKind.i64.wrap (strAt wstr0 (IntKind.u8.wrap (shrI .u64 a0 32))))
            some (IntKind.i64.wrap (32 + x5))
          else none
    else
      if (decide (a0 ≥ 65536)) = true then
        if (decide ((shrI .u64 a0 16) ≥ 256)) = true then
          if 0 ≤ (IntKind.u8.wrap (shrI .u64 (shrI .u64 a0 16) 8)) ∧ (IntKind.u8.wrap (shrI .u64 (shrI .u64 a0 16) 8)) < (wstr0.size : Int) then
            let x6 : Int := (strAt wstr0 (IntKind.u8.wrap (shrI .u64 (shrI .u64 a0 16) 8)))
            some (IntKind.i64.wrap (24 + (IntKind.i64.wrap x6)))
          else none
        else
          if 0 ≤ (IntKind.u8.wrap (shrI .u64 a0 16)) ∧ (IntKind.u8.wrap (shrI .u64 a0 16)) < (wstr0.size : Int) then
            let x7 : Int := (IntKind.i64.wrap (strAt wstr0 (IntKind.u8.wrap (shrI .u64 a0 16))))
            some (IntKind.i64.wrap (16 + x7))
          else none
      else
        if (decide (a0 ≥ 256)) = true then
          if 0 ≤ (IntKind.u8.wrap (shrI .u64 a0 8)) ∧ (IntKind.u8.wrap (shrI .u64 a0 8)) < (wstr0.size : Int) then
            let x8 : Int := (IntKind.i64.wrap (strAt wstr0 (IntKind.u8.wrap (shrI .u64 a0 8))))
            some (IntKind.i64.wrap (8 + x8))
          else none
        else
          if 0 ≤ (IntKind.u8.wrap a0) ∧ (IntKind.u8.wrap a0) < (wstr0.size : Int) then
            let x9 : Int := (IntKind.i64.wrap (0 + (IntKind.i64.wrap (strAt wstr0 (IntKind.u8.wrap a0)))))
            some x9
          else none

noncomputable def annw40 : Ann := .none
abbrev Sw40 : FSh := ⟨[.val (.c (.int .u64))], [.val (.c (.int .i64))], [.tmp 2]⟩
noncomputable def cw40 : Ctx Go.Proofs.Try.prog := ⟨wtab, ofL Ew10, wtabOk, Ew10_ok, wdep, word⟩
theorem eqw40 : ∀ x : psT Sw40.ps, exec wtab (ofL Ew10) 25 bodyw40 annw40 (fin wtab Sw40) (argSt Sw40 x) = Fw40 x := by
  intro x
  kernel_rfl
theorem callsw40 : CallsAs Go.Proofs.Try.prog cw40 40 Sw40 Fw40 := by
  refine fun_calls (fn := Go.Proofs.Try.f40) (c := bodyw40) (ann := annw40) cw40 (by kernel_rfl) (by kernel_rfl) (by kernel_rfl) (by decide) (annOk_of_cuts ?_) eqw40
  intro x hx
  exact absurd hx (by show x ∉ ([] : List (List Nat × LEnt)); simp)

theorem entw40 : EntOk Go.Proofs.Try.prog 40 (funEnt Sw40 Fw40) := fun_ok cw40 (fn := Go.Proofs.Try.f40) (c := bodyw40) (by kernel_rfl) (by kernel_rfl) (by kernel_rfl) rfl rfl (by decide) callsw40
noncomputable def Ew40 : List (Nat × Ent) := (40, funEnt Sw40 Fw40) :: Ew10
theorem Ew40_ok : EntsOk Go.Proofs.Try.prog (ofL Ew40) := .cons entw40 Ew10_ok

/-! ### barbican/wide.Bits -/
noncomputable def bodyw16 : Code := (Go.Proofs.Try.f16.body).getD .skip
abbrev lw16_0 : Lay := ⟨[(1, .ptr 1 0 4)], [.env 3 (.c (.int .i64)), .reg 1 (.cells [.ints .u64 4])], [(1, 1)]⟩
abbrev ow16_0 : List (AExit × Lay) := [(.ret, ⟨[], [.env 2 (.c (.int .i64))], []⟩), (.exit 0, ⟨[], [], []⟩)]
noncomputable def stepw16_0 : Int × (Nat → Int) → Option ((Int × (Nat → Int)) ⊕ ((Int) ⊕ (Unit)))
  | (t3, r1) =>
    if (decide (t3 ≥ 0)) = true then
      if (0 : Int) ≤ t3 ∧ t3 < ((4 : Int) : Int) then
        if ((r1 t3.toNat) != 0) = true then
          if (0 : Int) ≤ t3 ∧ t3 < ((4 : Int) : Int) then
            (Fw40 (r1 t3.toNat)).bind fun y1 =>
              some (.inr (.inl (IntKind.i64.wrap ((IntKind.i64.wrap (64 * t3)) + y1))))
          else none
        else
          some (.inl ((IntKind.i64.wrap (t3 - 1)), r1))
      else none
    else
      some (.inr (.inr ()))

noncomputable def annw16_0 : Ann := .none
noncomputable def Fw16 : (Nat → Int) → Option (Int)
  | a0 =>
    (loopO stepw16_0 (3, a0)).bind fun
      | (.inl z3) =>
        some z3
      | (.inr _) =>
        some 0

noncomputable def annw16 : Ann := (.seq .none (.seq (.seq .none (.seq (.cut (cutEnt lw16_0 ow16_0 (loopO stepw16_0))) .none)) .none))
abbrev Sw16 : FSh := ⟨[.val (.agg [.ints .u64 4])], [.val (.c (.int .i64))], [.tmp 2]⟩
noncomputable def cw16 : Ctx Go.Proofs.Try.prog := ⟨wtab, ofL Ew40, wtabOk, Ew40_ok, wdep, word⟩
theorem eqw16_0 : ∀ s : lw16_0.T, exec wtab (ofL Ew40) 19 (Code.at' [1, 0, 1, 0, 0] bodyw16) annw16_0 (fun e st => loopEnd (l := lw16_0) (outs := ow16_0) e st) (lw16_0.enc s) = stepw16_0 s := by
  rintro ⟨t3, r1⟩
  kernel_rfl
theorem okw16_0 : LOk Go.Proofs.Try.prog 19 (cutEnt lw16_0 ow16_0 (loopO stepw16_0)) (Code.at' [1, 0, 1, 0] bodyw16) := by
  have e : Code.at' [1, 0, 1, 0] bodyw16 = .loop (Code.at' [1, 0, 1, 0, 0] bodyw16) := by kernel_rfl
  rw [e]
  refine loop_ok cw16 19 rfl rfl (annOk_of_cuts ?_) eqw16_0
  intro x hx
  exact absurd hx (by show x ∉ ([] : List (List Nat × LEnt)); simp)

theorem eqw16 : ∀ x : psT Sw16.ps, exec wtab (ofL Ew40) 19 bodyw16 annw16 (fin wtab Sw16) (argSt Sw16 x) = Fw16 x := by
  intro x
  kernel_rfl
theorem callsw16 : CallsAs Go.Proofs.Try.prog cw16 16 Sw16 Fw16 := by
  refine fun_calls (fn := Go.Proofs.Try.f16) (c := bodyw16) (ann := annw16) cw16 (by kernel_rfl) (by kernel_rfl) (by kernel_rfl) (by decide) (annOk_of_cuts ?_) eqw16
  have hc : Ann.cuts annw16 = [([1, 0, 1, 0], (cutEnt lw16_0 ow16_0 (loopO stepw16_0)))] := by kernel_rfl
  rw [hc]
  intro x hx
  simp only [List.mem_cons, List.not_mem_nil, or_false] at hx
  rcases hx with rfl
  · have e : Code.at' [1, 0, 1, 0] bodyw16 = Code.at' [1, 0, 1, 0] bodyw16 := by kernel_rfl
    rw [e]; exact okw16_0

theorem entw16 : EntOk Go.Proofs.Try.prog 16 (funEnt Sw16 Fw16) := fun_ok cw16 (fn := Go.Proofs.Try.f16) (c := bodyw16) (by kernel_rfl) (by kernel_rfl) (by kernel_rfl) rfl rfl (by decide) callsw16
noncomputable def Ew16 : List (Nat × Ent) := (16, funEnt Sw16 Fw16) :: Ew40
theorem Ew16_ok : EntsOk Go.Proofs.Try.prog (ofL Ew16) := .cons entw16 Ew40_ok

/-! ### barbican/barbicanlaw04.awake -/
noncomputable def bodyw9 : Code := (Go.Proofs.Try.f9.body).getD .skip
noncomputable def Fw9 : Unit → Option (Bool)
  | _ =>
    (Fw11 ((fun _ => 0), (upd (fun _ => 0) 0 1))).bind fun (y1, y2) =>
      (Fw10 (y1, (upd (fun _ => 0) 0 1))).bind fun (y3, y4) =>
        if ((y1 3) == 18446744073709551615) = true then
          if (y2 == 1) = true then
            if (arrEq 4 y3 (fun _ => 0)) = true then
              if (y4 == 1) = true then
                (Fw16 y1).bind fun y5 =>
                  some (y5 == 256)
              else
                some false
            else
              some false
          else
            some false
        else
          some false

noncomputable def annw9 : Ann := .none
abbrev Sw9 : FSh := ⟨[], [.val (.c (.bool))], [.tmp 0]⟩
noncomputable def cw9 : Ctx Go.Proofs.Try.prog := ⟨wtab, ofL Ew16, wtabOk, Ew16_ok, wdep, word⟩
theorem eqw9 : ∀ x : psT Sw9.ps, exec wtab (ofL Ew16) 38 bodyw9 annw9 (fin wtab Sw9) (argSt Sw9 x) = Fw9 x := by
  intro x
  kernel_rfl
theorem callsw9 : CallsAs Go.Proofs.Try.prog cw9 9 Sw9 Fw9 := by
  refine fun_calls (fn := Go.Proofs.Try.f9) (c := bodyw9) (ann := annw9) cw9 (by kernel_rfl) (by kernel_rfl) (by kernel_rfl) (by decide) (annOk_of_cuts ?_) eqw9
  intro x hx
  exact absurd hx (by show x ∉ ([] : List (List Nat × LEnt)); simp)

theorem entw9 : EntOk Go.Proofs.Try.prog 9 (funEnt Sw9 Fw9) := fun_ok cw9 (fn := Go.Proofs.Try.f9) (c := bodyw9) (by kernel_rfl) (by kernel_rfl) (by kernel_rfl) rfl rfl (by decide) callsw9
noncomputable def Ew9 : List (Nat × Ent) := (9, funEnt Sw9 Fw9) :: Ew16
theorem Ew9_ok : EntsOk Go.Proofs.Try.prog (ofL Ew9) := .cons entw9 Ew16_ok

/-! ### barbican/barbicanref04.digits -/
noncomputable def bodyw47 : Code := (Go.Proofs.Try.f47.body).getD .skip
abbrev lw47_1 : Lay := ⟨[(3, .full 3)], [.env 0 (.c (.fz (.int .u64))), .env 4 (.c (.int .i64)), .env 5 (.c (.int .u64)), .env 6 (.c (.int .i64)), .reg 3 (.row 59 .u32)], [(3, 3)]⟩
abbrev ow47_1 : List (AExit × Lay) := [(.exit 2, ⟨[(3, .full 3)], [.env 0 (.c (.fz (.int .u64))), .env 4 (.c (.int .i64)), .reg 3 (.row 59 .u32)], [(3, 3)]⟩)]
noncomputable def stepw47_1 : (List Int) × Int × Int × Int × List Int → Option (((List Int) × Int × Int × Int × List Int) ⊕ (((List Int) × Int × List Int)))
  | (t0, t4, t5, t6, r3) =>
    if (decide (t6 < 4)) = true then
      let f1 : List Int := ((List.replicate 1 (0 : Int)).set 0 (IntKind.u32.wrap (t5.tmod 65536)))
      if okBytes (r3.length + f1.length) 4 then
        some (.inl (t0, t4, (IntKind.u64.wrap (t5.tdiv 65536)), (IntKind.i64.wrap (t6 + 1)), (r3 ++ f1)))
      else none
    else
      some (.inr (t0, t4, r3))

noncomputable def annw47_1 : Ann := .none
abbrev lw47_0 : Lay := ⟨[(3, .full 3)], [.env 0 (.c (.fz (.int .u64))), .env 4 (.c (.int .i64)), .reg 3 (.row 59 .u32)], [(3, 3)]⟩
abbrev ow47_0 : List (AExit × Lay) := [(.exit 0, ⟨[(3, .full 3)], [.reg 3 (.row 59 .u32)], [(3, 3)]⟩)]
noncomputable def stepw47_0 : (List Int) × Int × List Int → Option (((List Int) × Int × List Int) ⊕ ((List Int)))
  | (t0, t4, r3) =>
    if (decide (t4 < (t0.length : Int))) = true then
      if (0 : Int) ≤ t4 ∧ t4 < (t0.length : Int) then
        (loopO stepw47_1 (t0, t4, (t0.getD t4.toNat 0), 0, r3)).bind fun (z2, z3, z4) =>
          some (.inl (z2, (IntKind.i64.wrap (z3 + 1)), z4))
      else none
    else
      some (.inr r3)

noncomputable def annw47_0 : Ann := (.seq .none (.seq (.seq (.seq .none (.seq .none (.seq (.cut (cutEnt lw47_1 ow47_1 (loopO stepw47_1))) .none))) .none) .none))
noncomputable def Fw47 : List Int → Option (List Int)
  | a0 =>
    (loopO stepw47_0 (a0, 0, ([] : List Int))).bind fun z5 =>
      some z5

noncomputable def annw47 : Ann := (.seq .none (.seq .none (.seq (.seq .none (.seq (.cut (cutEnt lw47_0 ow47_0 (loopO stepw47_0))) .none)) .none)))
abbrev Sw47 : FSh := ⟨[.ints .u64], [.row 59 .u32], [.tmp 2]⟩
noncomputable def cw47 : Ctx Go.Proofs.Try.prog := ⟨wtab, ofL Ew9, wtabOk, Ew9_ok, wdep, word⟩
theorem eqw47_1 : ∀ s : lw47_1.T, exec wtab (ofL Ew9) 30 (Code.at' [1, 1, 0, 1, 0, 0, 1, 0, 0, 1, 1, 0, 0] bodyw47) annw47_1 (fun e st => loopEnd (l := lw47_1) (outs := ow47_1) e st) (lw47_1.enc s) = stepw47_1 s := by
  rintro ⟨t0, t4, t5, t6, r3⟩
  kernel_rfl
theorem okw47_1 : LOk Go.Proofs.Try.prog 30 (cutEnt lw47_1 ow47_1 (loopO stepw47_1)) (Code.at' [1, 1, 0, 1, 0, 0, 1, 0, 0, 1, 1, 0] bodyw47) := by
  have e : Code.at' [1, 1, 0, 1, 0, 0, 1, 0, 0, 1, 1, 0] bodyw47 = .loop (Code.at' [1, 1, 0, 1, 0, 0, 1, 0, 0, 1, 1, 0, 0] bodyw47) := by kernel_rfl
  rw [e]
  refine loop_ok cw47 30 rfl rfl (annOk_of_cuts ?_) eqw47_1
  intro x hx
  exact absurd hx (by show x ∉ ([] : List (List Nat × LEnt)); simp)

theorem eqw47_0 : ∀ s : lw47_0.T, exec wtab (ofL Ew9) 30 (Code.at' [1, 1, 0, 1, 0, 0] bodyw47) annw47_0 (fun e st => loopEnd (l := lw47_0) (outs := ow47_0) e st) (lw47_0.enc s) = stepw47_0 s := by
  rintro ⟨t0, t4, r3⟩
  kernel_rfl
theorem okw47_0 : LOk Go.Proofs.Try.prog 30 (cutEnt lw47_0 ow47_0 (loopO stepw47_0)) (Code.at' [1, 1, 0, 1, 0] bodyw47) := by
  have e : Code.at' [1, 1, 0, 1, 0] bodyw47 = .loop (Code.at' [1, 1, 0, 1, 0, 0] bodyw47) := by kernel_rfl
  rw [e]
  refine loop_ok cw47 30 rfl rfl (annOk_of_cuts ?_) eqw47_0
  have hc : Ann.cuts annw47_0 = [([1, 0, 0, 1, 1, 0], (cutEnt lw47_1 ow47_1 (loopO stepw47_1)))] := by kernel_rfl
  rw [hc]
  intro x hx
  simp only [List.mem_cons, List.not_mem_nil, or_false] at hx
  rcases hx with rfl
  · have e : Code.at' [1, 0, 0, 1, 1, 0] (Code.at' [1, 1, 0, 1, 0, 0] bodyw47) = Code.at' [1, 1, 0, 1, 0, 0, 1, 0, 0, 1, 1, 0] bodyw47 := by kernel_rfl
    rw [e]; exact okw47_1

theorem eqw47 : ∀ x : psT Sw47.ps, exec wtab (ofL Ew9) 30 bodyw47 annw47 (fin wtab Sw47) (argSt Sw47 x) = Fw47 x := by
  intro x
  kernel_rfl
theorem callsw47 : CallsAs Go.Proofs.Try.prog cw47 47 Sw47 Fw47 := by
  refine fun_calls (fn := Go.Proofs.Try.f47) (c := bodyw47) (ann := annw47) cw47 (by kernel_rfl) (by kernel_rfl) (by kernel_rfl) (by decide) (annOk_of_cuts ?_) eqw47
  have hc : Ann.cuts annw47 = [([1, 1, 0, 1, 0], (cutEnt lw47_0 ow47_0 (loopO stepw47_0)))] := by kernel_rfl
  rw [hc]
  intro x hx
  simp only [List.mem_cons, List.not_mem_nil, or_false] at hx
  rcases hx with rfl
  · have e : Code.at' [1, 1, 0, 1, 0] bodyw47 = Code.at' [1, 1, 0, 1, 0] bodyw47 := by kernel_rfl
    rw [e]; exact okw47_0

theorem entw47 : EntOk Go.Proofs.Try.prog 47 (funEnt Sw47 Fw47) := fun_ok cw47 (fn := Go.Proofs.Try.f47) (c := bodyw47) (by kernel_rfl) (by kernel_rfl) (by kernel_rfl) rfl rfl (by decide) callsw47
noncomputable def Ew47 : List (Nat × Ent) := (47, funEnt Sw47 Fw47) :: Ew9
theorem Ew47_ok : EntsOk Go.Proofs.Try.prog (ofL Ew47) := .cons entw47 Ew9_ok

/-! ### barbican/barbicanref04.Digits -/
noncomputable def bodyw38 : Code := (Go.Proofs.Try.f38.body).getD .skip
noncomputable def Fw38 : (Nat → Int) → Option (List Int)
  | a0 =>
    (Fw47 ((List.range 4).map (fun j => a0 (0 + j)))).bind fun y1 =>
      some y1

noncomputable def annw38 : Ann := .none
abbrev Sw38 : FSh := ⟨[.val (.agg [.ints .u64 4])], [.row 59 .u32], [.tmp 2]⟩
noncomputable def cw38 : Ctx Go.Proofs.Try.prog := ⟨wtab, ofL Ew47, wtabOk, Ew47_ok, wdep, word⟩
theorem eqw38 : ∀ x : psT Sw38.ps, exec wtab (ofL Ew47) 5 bodyw38 annw38 (fin wtab Sw38) (argSt Sw38 x) = Fw38 x := by
  intro x
  kernel_rfl
theorem callsw38 : CallsAs Go.Proofs.Try.prog cw38 38 Sw38 Fw38 := by
  refine fun_calls (fn := Go.Proofs.Try.f38) (c := bodyw38) (ann := annw38) cw38 (by kernel_rfl) (by kernel_rfl) (by kernel_rfl) (by decide) (annOk_of_cuts ?_) eqw38
  intro x hx
  exact absurd hx (by show x ∉ ([] : List (List Nat × LEnt)); simp)

theorem entw38 : EntOk Go.Proofs.Try.prog 38 (funEnt Sw38 Fw38) := fun_ok cw38 (fn := Go.Proofs.Try.f38) (c := bodyw38) (by kernel_rfl) (by kernel_rfl) (by kernel_rfl) rfl rfl (by decide) callsw38
noncomputable def Ew38 : List (Nat × Ent) := (38, funEnt Sw38 Fw38) :: Ew47
theorem Ew38_ok : EntsOk Go.Proofs.Try.prog (ofL Ew38) := .cons entw38 Ew47_ok

/-! ### barbican/barbicanref04.word -/
noncomputable def bodyw46 : Code := (Go.Proofs.Try.f46.body).getD .skip
abbrev lw46_0 : Lay := ⟨[], [.env 0 (.c (.fz (.int .u32))), .env 1 (.c (.int .i64)), .env 5 (.c (.int .u64)), .env 6 (.c (.int .i64))], []⟩
abbrev ow46_0 : List (AExit × Lay) := [(.exit 0, ⟨[], [.env 5 (.c (.int .u64))], []⟩)]
noncomputable def stepw46_0 : (List Int) × Int × Int × Int → Option (((List Int) × Int × Int × Int) ⊕ ((Int)))
  | (t0, t1, t5, t6) =>
    if (decide (t6 ≥ 0)) = true then
      let x1 : Bool := (decide ((IntKind.i64.wrap ((IntKind.i64.wrap (4 * t1)) + t6)) < (t0.length : Int)))
      if x1 = true then
        if (0 : Int) ≤ (IntKind.i64.wrap ((IntKind.i64.wrap (4 * t1)) + t6)) ∧ (IntKind.i64.wrap ((IntKind.i64.wrap (4 * t1)) + t6)) < (t0.length : Int) then
          let x2 : Int := (t0.getD (IntKind.i64.wrap ((IntKind.i64.wrap (4 * t1)) + t6)).toNat 0)
          let x3 : Int := (IntKind.u64.wrap ((IntKind.u64.wrap (t5 * 65536)) + (IntKind.u64.wrap x2)))
          some (.inl (t0, t1, x3, (IntKind.i64.wrap (t6 - 1))))
        else none
      else
        some (.inl (t0, t1, (IntKind.u64.wrap (t5 * 65536)), (IntKind.i64.wrap (t6 - 1))))
    else
      some (.inr t5)

noncomputable def annw46_0 : Ann := .none
noncomputable def Fw46 : List Int × Int → Option (Int)
  | (a0, a1) =>
    (loopO stepw46_0 (a0, a1, 0, 3)).bind fun z4 =>
      some z4

noncomputable def annw46 : Ann := (.seq .none (.seq .none (.seq (.seq .none (.seq (.cut (cutEnt lw46_0 ow46_0 (loopO stepw46_0))) .none)) .none)))
abbrev Sw46 : FSh := ⟨[.ints .u32, .val (.c (.int .i64))], [.val (.c (.int .u64))], [.tmp 4]⟩
noncomputable def cw46 : Ctx Go.Proofs.Try.prog := ⟨wtab, ofL Ew38, wtabOk, Ew38_ok, wdep, word⟩
theorem eqw46_0 : ∀ s : lw46_0.T, exec wtab (ofL Ew38) 32 (Code.at' [1, 1, 0, 1, 0, 0] bodyw46) annw46_0 (fun e st => loopEnd (l := lw46_0) (outs := ow46_0) e st) (lw46_0.enc s) = stepw46_0 s := by
  rintro ⟨t0, t1, t5, t6⟩
  kernel_rfl
theorem okw46_0 : LOk Go.Proofs.Try.prog 32 (cutEnt lw46_0 ow46_0 (loopO stepw46_0)) (Code.at' [1, 1, 0, 1, 0] bodyw46) := by
  have e : Code.at' [1, 1, 0, 1, 0] bodyw46 = .loop (Code.at' [1, 1, 0, 1, 0, 0] bodyw46) := by kernel_rfl
  rw [e]
  refine loop_ok cw46 32 rfl rfl (annOk_of_cuts ?_) eqw46_0
  intro x hx
  exact absurd hx (by show x ∉ ([] : List (List Nat × LEnt)); simp)

theorem eqw46 : ∀ x : psT Sw46.ps, exec wtab (ofL Ew38) 32 bodyw46 annw46 (fin wtab Sw46) (argSt Sw46 x) = Fw46 x := by
  rintro ⟨a0, a1⟩
  kernel_rfl
theorem callsw46 : CallsAs Go.Proofs.Try.prog cw46 46 Sw46 Fw46 := by
  refine fun_calls (fn := Go.Proofs.Try.f46) (c := bodyw46) (ann := annw46) cw46 (by kernel_rfl) (by kernel_rfl) (by kernel_rfl) (by decide) (annOk_of_cuts ?_) eqw46
  have hc : Ann.cuts annw46 = [([1, 1, 0, 1, 0], (cutEnt lw46_0 ow46_0 (loopO stepw46_0)))] := by kernel_rfl
  rw [hc]
  intro x hx
  simp only [List.mem_cons, List.not_mem_nil, or_false] at hx
  rcases hx with rfl
  · have e : Code.at' [1, 1, 0, 1, 0] bodyw46 = Code.at' [1, 1, 0, 1, 0] bodyw46 := by kernel_rfl
    rw [e]; exact okw46_0

theorem entw46 : EntOk Go.Proofs.Try.prog 46 (funEnt Sw46 Fw46) := fun_ok cw46 (fn := Go.Proofs.Try.f46) (c := bodyw46) (by kernel_rfl) (by kernel_rfl) (by kernel_rfl) rfl rfl (by decide) callsw46
noncomputable def Ew46 : List (Nat × Ent) := (46, funEnt Sw46 Fw46) :: Ew38
theorem Ew46_ok : EntsOk Go.Proofs.Try.prog (ofL Ew46) := .cons entw46 Ew38_ok

/-! ### barbican/barbicanref04.Num -/
noncomputable def bodyw39 : Code := (Go.Proofs.Try.f39.body).getD .skip
noncomputable def Fw39 : List Int → Option ((Nat → Int))
  | a0 =>
    (Fw46 (a0, 0)).bind fun y1 =>
      (Fw46 (a0, 1)).bind fun y2 =>
        (Fw46 (a0, 2)).bind fun y3 =>
          (Fw46 (a0, 3)).bind fun y4 =>
            some (upd (upd (upd (upd (fun _ => 0) 0 y1) 1 y2) 2 y3) 3 y4)

noncomputable def annw39 : Ann := .none
abbrev Sw39 : FSh := ⟨[.ints .u32], [.val (.agg [.ints .u64 4])], [.cell 2 24]⟩
noncomputable def cw39 : Ctx Go.Proofs.Try.prog := ⟨wtab, ofL Ew46, wtabOk, Ew46_ok, wdep, word⟩
theorem eqw39 : ∀ x : psT Sw39.ps, exec wtab (ofL Ew46) 12 bodyw39 annw39 (fin wtab Sw39) (argSt Sw39 x) = Fw39 x := by
  intro x
  kernel_rfl
theorem callsw39 : CallsAs Go.Proofs.Try.prog cw39 39 Sw39 Fw39 := by
  refine fun_calls (fn := Go.Proofs.Try.f39) (c := bodyw39) (ann := annw39) cw39 (by kernel_rfl) (by kernel_rfl) (by kernel_rfl) (by decide) (annOk_of_cuts ?_) eqw39
  intro x hx
  exact absurd hx (by show x ∉ ([] : List (List Nat × LEnt)); simp)

theorem entw39 : EntOk Go.Proofs.Try.prog 39 (funEnt Sw39 Fw39) := fun_ok cw39 (fn := Go.Proofs.Try.f39) (c := bodyw39) (by kernel_rfl) (by kernel_rfl) (by kernel_rfl) rfl rfl (by decide) callsw39
noncomputable def Ew39 : List (Nat × Ent) := (39, funEnt Sw39 Fw39) :: Ew46
theorem Ew39_ok : EntsOk Go.Proofs.Try.prog (ofL Ew39) := .cons entw39 Ew46_ok

/-! ### barbican/barbicanref04.Add -/
noncomputable def bodyw12 : Code := (Go.Proofs.Try.f12.body).getD .skip
abbrev lw12_0 : Lay := ⟨[(4, .ptr 4 0 4), (6, .full 12), (7, .full 14)], [.env 8 (.c (.int .u32)), .env 9 (.c (.int .i64)), .reg 4 (.cells [.ints .u64 4]), .reg 12 (.row 59 .u32), .reg 14 (.row 59 .u32)], [(4, 4), (12, 6), (14, 7)]⟩
abbrev ow12_0 : List (AExit × Lay) := [(.exit 0, ⟨[(4, .ptr 4 0 4), (6, .full 12)], [.env 8 (.c (.int .u32)), .reg 4 (.cells [.ints .u64 4]), .reg 12 (.row 59 .u32)], [(4, 4), (12, 6)]⟩)]
noncomputable def stepw12_0 : Int × Int × (Nat → Int) × List Int × List Int → Option ((Int × Int × (Nat → Int) × List Int × List Int) ⊕ ((Int × (Nat → Int) × List Int)))
  | (t8, t9, r4, r12, r14) =>
    if (decide (t9 < 16)) = true then
      if (0 : Int) ≤ t9 ∧ t9 < (r12.length : Int) then
        if (0 : Int) ≤ t9 ∧ t9 < (r14.length : Int) then
          let x3 : Int := (IntKind.u32.wrap ((r12.getD t9.toNat 0) + (r14.getD t9.toNat 0)))
          if (0 : Int) ≤ t9 ∧ t9 < (r12.length : Int) then
            some (.inl ((IntKind.u32.wrap ((IntKind.u32.wrap (x3 + t8)).tdiv 65536)), (IntKind.i64.wrap (t9 + 1)), r4, (r12.set t9.toNat ((IntKind.u32.wrap (x3 + t8)).tmod 65536)), r14))
          else none
        else none
      else none
    else
      some (.inr (t8, r4, r12))

noncomputable def annw12_0 : Ann := .none
noncomputable def Fw12 : (Nat → Int) × (Nat → Int) → Option ((Nat → Int) × Int)
  | (a0, a1) =>
    (Fw38 a0).bind fun y1 =>
      (Fw38 a1).bind fun y2 =>
        (loopO stepw12_0 (0, 0, (fun _ => 0), y1, y2)).bind fun (z4, z5, z6) =>
          (Fw39 z6).bind fun y7 =>
            some (y7, (IntKind.i64.wrap z4))

noncomputable def annw12 : Ann := (.seq .none (.seq .none (.seq .none (.seq .none (.seq (.seq .none (.seq (.cut (cutEnt lw12_0 ow12_0 (loopO stepw12_0))) .none)) .none)))))
abbrev Sw12 : FSh := ⟨[.val (.agg [.ints .u64 4]), .val (.agg [.ints .u64 4])], [.val (.agg [.ints .u64 4]), .val (.c (.int .i64))], [.cell 4 24, .tmp 5]⟩
noncomputable def cw12 : Ctx Go.Proofs.Try.prog := ⟨wtab, ofL Ew39, wtabOk, Ew39_ok, wdep, word⟩
theorem eqw12_0 : ∀ s : lw12_0.T, exec wtab (ofL Ew39) 41 (Code.at' [1, 1, 1, 1, 0, 1, 0, 0] bodyw12) annw12_0 (fun e st => loopEnd (l := lw12_0) (outs := ow12_0) e st) (lw12_0.enc s) = stepw12_0 s := by
  rintro ⟨t8, t9, r4, r12, r14⟩
  kernel_rfl
theorem okw12_0 : LOk Go.Proofs.Try.prog 41 (cutEnt lw12_0 ow12_0 (loopO stepw12_0)) (Code.at' [1, 1, 1, 1, 0, 1, 0] bodyw12) := by
  have e : Code.at' [1, 1, 1, 1, 0, 1, 0] bodyw12 = .loop (Code.at' [1, 1, 1, 1, 0, 1, 0, 0] bodyw12) := by kernel_rfl
  rw [e]
  refine loop_ok cw12 41 rfl rfl (annOk_of_cuts ?_) eqw12_0
  intro x hx
  exact absurd hx (by show x ∉ ([] : List (List Nat × LEnt)); simp)

theorem eqw12 : ∀ x : psT Sw12.ps, exec wtab (ofL Ew39) 41 bodyw12 annw12 (fin wtab Sw12) (argSt Sw12 x) = Fw12 x := by
  rintro ⟨a0, a1⟩
  kernel_rfl
theorem callsw12 : CallsAs Go.Proofs.Try.prog cw12 12 Sw12 Fw12 := by
  refine fun_calls (fn := Go.Proofs.Try.f12) (c := bodyw12) (ann := annw12) cw12 (by kernel_rfl) (by kernel_rfl) (by kernel_rfl) (by decide) (annOk_of_cuts ?_) eqw12
  have hc : Ann.cuts annw12 = [([1, 1, 1, 1, 0, 1, 0], (cutEnt lw12_0 ow12_0 (loopO stepw12_0)))] := by kernel_rfl
  rw [hc]
  intro x hx
  simp only [List.mem_cons, List.not_mem_nil, or_false] at hx
  rcases hx with rfl
  · have e : Code.at' [1, 1, 1, 1, 0, 1, 0] bodyw12 = Code.at' [1, 1, 1, 1, 0, 1, 0] bodyw12 := by kernel_rfl
    rw [e]; exact okw12_0

theorem entw12 : EntOk Go.Proofs.Try.prog 12 (funEnt Sw12 Fw12) := fun_ok cw12 (fn := Go.Proofs.Try.f12) (c := bodyw12) (by kernel_rfl) (by kernel_rfl) (by kernel_rfl) rfl rfl (by decide) callsw12
noncomputable def Ew12 : List (Nat × Ent) := (12, funEnt Sw12 Fw12) :: Ew39
theorem Ew12_ok : EntsOk Go.Proofs.Try.prog (ofL Ew12) := .cons entw12 Ew39_ok

/-! ### barbican/barbicanref04.Sub -/
noncomputable def bodyw13 : Code := (Go.Proofs.Try.f13.body).getD .skip
abbrev lw13_0 : Lay := ⟨[(4, .ptr 4 0 4), (6, .full 12), (7, .full 14)], [.env 8 (.c (.int .u32)), .env 9 (.c (.int .i64)), .reg 4 (.cells [.ints .u64 4]), .reg 12 (.row 59 .u32), .reg 14 (.row 59 .u32)], [(4, 4), (12, 6), (14, 7)]⟩
abbrev ow13_0 : List (AExit × Lay) := [(.exit 0, ⟨[(4, .ptr 4 0 4), (6, .full 12)], [.env 8 (.c (.int .u32)), .reg 4 (.cells [.ints .u64 4]), .reg 12 (.row 59 .u32)], [(4, 4), (12, 6)]⟩)]
noncomputable def stepw13_0 : Int × Int × (Nat → Int) × List Int × List Int → Option ((Int × Int × (Nat → Int) × List Int × List Int) ⊕ ((Int × (Nat → Int) × List Int)))
  | (t8, t9, r4, r12, r14) =>
    if (decide (t9 < 16)) = true then
      if (0 : Int) ≤ t9 ∧ t9 < (r12.length : Int) then
        if (0 : Int) ≤ t9 ∧ t9 < (r14.length : Int) then
          let x3 : Int := (IntKind.u32.wrap ((IntKind.u32.wrap ((r12.getD t9.toNat 0) + 65536)) - (r14.getD t9.toNat 0)))
          if (0 : Int) ≤ t9 ∧ t9 < (r12.length : Int) then
            let x4 : Int := (IntKind.u32.wrap (1 - (IntKind.u32.wrap ((IntKind.u32.wrap (x3 - t8)).tdiv 65536))))
            some (.inl (x4, (IntKind.i64.wrap (t9 + 1)), r4, (r12.set t9.toNat ((IntKind.u32.wrap (x3 - t8)).tmod 65536)), r14))
          else none
        else none
      else none
    else
      some (.inr (t8, r4, r12))

noncomputable def annw13_0 : Ann := .none
noncomputable def Fw13 : (Nat → Int) × (Nat → Int) → Option ((Nat → Int) × Int)
  | (a0, a1) =>
    (Fw38 a0).bind fun y1 =>
      (Fw38 a1).bind fun y2 =>
        (loopO stepw13_0 (0, 0, (fun _ => 0), y1, y2)).bind fun (z5, z6, z7) =>
          (Fw39 z7).bind fun y8 =>
            some (y8, (IntKind.i64.wrap z5))

noncomputable def annw13 : Ann := (.seq .none (.seq .none (.seq .none (.seq .none (.seq (.seq .none (.seq (.cut (cutEnt lw13_0 ow13_0 (loopO stepw13_0))) .none)) .none)))))
abbrev Sw13 : FSh := ⟨[.val (.agg [.ints .u64 4]), .val (.agg [.ints .u64 4])], [.val (.agg [.ints .u64 4]), .val (.c (.int .i64))], [.cell 4 24, .tmp 5]⟩
noncomputable def cw13 : Ctx Go.Proofs.Try.prog := ⟨wtab, ofL Ew12, wtabOk, Ew12_ok, wdep, word⟩
theorem eqw13_0 : ∀ s : lw13_0.T, exec wtab (ofL Ew12) 43 (Code.at' [1, 1, 1, 1, 0, 1, 0, 0] bodyw13) annw13_0 (fun e st => loopEnd (l := lw13_0) (outs := ow13_0) e st) (lw13_0.enc s) = stepw13_0 s := by
  rintro ⟨t8, t9, r4, r12, r14⟩
  kernel_rfl
theorem okw13_0 : LOk Go.Proofs.Try.prog 43 (cutEnt lw13_0 ow13_0 (loopO stepw13_0)) (Code.at' [1, 1, 1, 1, 0, 1, 0] bodyw13) := by
  have e : Code.at' [1, 1, 1, 1, 0, 1, 0] bodyw13 = .loop (Code.at' [1, 1, 1, 1, 0, 1, 0, 0] bodyw13) := by kernel_rfl
  rw [e]
  refine loop_ok cw13 43 rfl rfl (annOk_of_cuts ?_) eqw13_0
  intro x hx
  exact absurd hx (by show x ∉ ([] : List (List Nat × LEnt)); simp)

theorem eqw13 : ∀ x : psT Sw13.ps, exec wtab (ofL Ew12) 43 bodyw13 annw13 (fin wtab Sw13) (argSt Sw13 x) = Fw13 x := by
  rintro ⟨a0, a1⟩
  kernel_rfl
theorem callsw13 : CallsAs Go.Proofs.Try.prog cw13 13 Sw13 Fw13 := by
  refine fun_calls (fn := Go.Proofs.Try.f13) (c := bodyw13) (ann := annw13) cw13 (by kernel_rfl) (by kernel_rfl) (by kernel_rfl) (by decide) (annOk_of_cuts ?_) eqw13
  have hc : Ann.cuts annw13 = [([1, 1, 1, 1, 0, 1, 0], (cutEnt lw13_0 ow13_0 (loopO stepw13_0)))] := by kernel_rfl
  rw [hc]
  intro x hx
  simp only [List.mem_cons, List.not_mem_nil, or_false] at hx
  rcases hx with rfl
  · have e : Code.at' [1, 1, 1, 1, 0, 1, 0] bodyw13 = Code.at' [1, 1, 1, 1, 0, 1, 0] bodyw13 := by kernel_rfl
    rw [e]; exact okw13_0

theorem entw13 : EntOk Go.Proofs.Try.prog 13 (funEnt Sw13 Fw13) := fun_ok cw13 (fn := Go.Proofs.Try.f13) (c := bodyw13) (by kernel_rfl) (by kernel_rfl) (by kernel_rfl) rfl rfl (by decide) callsw13
noncomputable def Ew13 : List (Nat × Ent) := (13, funEnt Sw13 Fw13) :: Ew12
theorem Ew13_ok : EntsOk Go.Proofs.Try.prog (ofL Ew13) := .cons entw13 Ew12_ok

/-! ### barbican/barbicanlaw04.WideSums -/
noncomputable def bodyw3 : Code := (Go.Proofs.Try.f3.body).getD .skip
noncomputable def Fw3 : (Nat → Int) × (Nat → Int) → Option (Bool)
  | (a0, a1) =>
    (Fw9 ()).bind fun y1 =>
      (Fw10 (a0, a1)).bind fun (y2, y3) =>
        (Fw11 (a0, a1)).bind fun (y4, y5) =>
          (Fw12 (a0, a1)).bind fun (y6, y7) =>
            (Fw13 (a0, a1)).bind fun (y8, y9) =>
              if y1 = true then
                if (arrEq 4 y2 y6) = true then
                  if (y3 == y7) = true then
                    if (arrEq 4 y4 y8) = true then
                      some (y5 == y9)
                    else
                      some false
                  else
                    some false
                else
                  some false
              else
                some false

noncomputable def annw3 : Ann := .none
abbrev Sw3 : FSh := ⟨[.val (.agg [.ints .u64 4]), .val (.agg [.ints .u64 4])], [.val (.c (.bool))], [.tmp 4]⟩
noncomputable def cw3 : Ctx Go.Proofs.Try.prog := ⟨wtab, ofL Ew13, wtabOk, Ew13_ok, wdep, word⟩
theorem eqw3 : ∀ x : psT Sw3.ps, exec wtab (ofL Ew13) 60 bodyw3 annw3 (fin wtab Sw3) (argSt Sw3 x) = Fw3 x := by
  rintro ⟨a0, a1⟩
  kernel_rfl
theorem callsw3 : CallsAs Go.Proofs.Try.prog cw3 3 Sw3 Fw3 := by
  refine fun_calls (fn := Go.Proofs.Try.f3) (c := bodyw3) (ann := annw3) cw3 (by kernel_rfl) (by kernel_rfl) (by kernel_rfl) (by decide) (annOk_of_cuts ?_) eqw3
  intro x hx
  exact absurd hx (by show x ∉ ([] : List (List Nat × LEnt)); simp)

theorem entw3 : EntOk Go.Proofs.Try.prog 3 (funEnt Sw3 Fw3) := fun_ok cw3 (fn := Go.Proofs.Try.f3) (c := bodyw3) (by kernel_rfl) (by kernel_rfl) (by kernel_rfl) rfl rfl (by decide) callsw3
noncomputable def Ew3 : List (Nat × Ent) := (3, funEnt Sw3 Fw3) :: Ew13
theorem Ew3_ok : EntsOk Go.Proofs.Try.prog (ofL Ew3) := .cons entw3 Ew13_ok

/-! ### barbican/wide.Bit -/
noncomputable def bodyw14 : Code := (Go.Proofs.Try.f14.body).getD .skip
noncomputable def Fw14 : (Nat → Int) × Int → Option (Int)
  | (a0, a1) =>
    if (decide (a1 < 0)) = false then
      if (decide (a1 > 255)) = true then
        some 0
      else
        if (0 : Int) ≤ (IntKind.i64.wrap (a1.tdiv 64)) ∧ (IntKind.i64.wrap (a1.tdiv 64)) < ((4 : Int) : Int) then
          if 0 ≤ (a1.tmod 64) then
            let x1 : Int := (shrI .u64 (a0 (IntKind.i64.wrap (a1.tdiv 64)).toNat) (a1.tmod 64))
            some (IntKind.i64.wrap (bitsAnd .u64 x1 1))
          else none
        else none
    else
      some 0

noncomputable def annw14 : Ann := .none
abbrev Sw14 : FSh := ⟨[.val (.agg [.ints .u64 4]), .val (.c (.int .i64))], [.val (.c (.int .i64))], [.tmp 4]⟩
noncomputable def cw14 : Ctx Go.Proofs.Try.prog := ⟨wtab, ofL Ew3, wtabOk, Ew3_ok, wdep, word⟩
theorem eqw14 : ∀ x : psT Sw14.ps, exec wtab (ofL Ew3) 20 bodyw14 annw14 (fin wtab Sw14) (argSt Sw14 x) = Fw14 x := by
  rintro ⟨a0, a1⟩
  kernel_rfl
theorem callsw14 : CallsAs Go.Proofs.Try.prog cw14 14 Sw14 Fw14 := by
  refine fun_calls (fn := Go.Proofs.Try.f14) (c := bodyw14) (ann := annw14) cw14 (by kernel_rfl) (by kernel_rfl) (by kernel_rfl) (by decide) (annOk_of_cuts ?_) eqw14
  intro x hx
  exact absurd hx (by show x ∉ ([] : List (List Nat × LEnt)); simp)

theorem entw14 : EntOk Go.Proofs.Try.prog 14 (funEnt Sw14 Fw14) := fun_ok cw14 (fn := Go.Proofs.Try.f14) (c := bodyw14) (by kernel_rfl) (by kernel_rfl) (by kernel_rfl) rfl rfl (by decide) callsw14
noncomputable def Ew14 : List (Nat × Ent) := (14, funEnt Sw14 Fw14) :: Ew3
theorem Ew14_ok : EntsOk Go.Proofs.Try.prog (ofL Ew14) := .cons entw14 Ew3_ok

/-! ### barbican/barbicanref04.Bit -/
noncomputable def bodyw15 : Code := (Go.Proofs.Try.f15.body).getD .skip
abbrev lw15_0 : Lay := ⟨[], [.env 1 (.c (.int .i64)), .env 5 (.c (.int .u64)), .env 6 (.c (.int .i64))], []⟩
abbrev ow15_0 : List (AExit × Lay) := [(.exit 0, ⟨[], [.env 5 (.c (.int .u64))], []⟩)]
noncomputable def stepw15_0 : Int × Int × Int → Option ((Int × Int × Int) ⊕ ((Int)))
  | (t1, t5, t6) =>
    if (decide (t6 < (t1.tmod 64))) = true then
      some (.inl (t1, (IntKind.u64.wrap (t5.tdiv 2)), (IntKind.i64.wrap (t6 + 1))))
    else
      some (.inr t5)

noncomputable def annw15_0 : Ann := .none
noncomputable def Fw15 : (Nat → Int) × Int → Option (Int)
  | (a0, a1) =>
    if (decide (a1 < 0)) = false then
      if (decide (a1 > 255)) = true then
        some 0
      else
        if (0 : Int) ≤ (IntKind.i64.wrap (a1.tdiv 64)) ∧ (IntKind.i64.wrap (a1.tdiv 64)) < ((4 : Int) : Int) then
          (loopO stepw15_0 (a1, (a0 (IntKind.i64.wrap (a1.tdiv 64)).toNat), 0)).bind fun z1 =>
            some (IntKind.i64.wrap (z1.tmod 2))
        else none
    else
      some 0

noncomputable def annw15 : Ann := (.seq .none (.seq .none (.seq .none (.seq (.seq .none (.seq (.cut (cutEnt lw15_0 ow15_0 (loopO stepw15_0))) .none)) .none))))
abbrev Sw15 : FSh := ⟨[.val (.agg [.ints .u64 4]), .val (.c (.int .i64))], [.val (.c (.int .i64))], [.tmp 4]⟩
noncomputable def cw15 : Ctx Go.Proofs.Try.prog := ⟨wtab, ofL Ew14, wtabOk, Ew14_ok, wdep, word⟩
theorem eqw15_0 : ∀ s : lw15_0.T, exec wtab (ofL Ew14) 28 (Code.at' [1, 1, 1, 0, 1, 0, 0] bodyw15) annw15_0 (fun e st => loopEnd (l := lw15_0) (outs := ow15_0) e st) (lw15_0.enc s) = stepw15_0 s := by
  rintro ⟨t1, t5, t6⟩
  kernel_rfl
theorem okw15_0 : LOk Go.Proofs.Try.prog 28 (cutEnt lw15_0 ow15_0 (loopO stepw15_0)) (Code.at' [1, 1, 1, 0, 1, 0] bodyw15) := by
  have e : Code.at' [1, 1, 1, 0, 1, 0] bodyw15 = .loop (Code.at' [1, 1, 1, 0, 1, 0, 0] bodyw15) := by kernel_rfl
  rw [e]
  refine loop_ok cw15 28 rfl rfl (annOk_of_cuts ?_) eqw15_0
  intro x hx
  exact absurd hx (by show x ∉ ([] : List (List Nat × LEnt)); simp)

theorem eqw15 : ∀ x : psT Sw15.ps, exec wtab (ofL Ew14) 28 bodyw15 annw15 (fin wtab Sw15) (argSt Sw15 x) = Fw15 x := by
  rintro ⟨a0, a1⟩
  kernel_rfl
theorem callsw15 : CallsAs Go.Proofs.Try.prog cw15 15 Sw15 Fw15 := by
  refine fun_calls (fn := Go.Proofs.Try.f15) (c := bodyw15) (ann := annw15) cw15 (by kernel_rfl) (by kernel_rfl) (by kernel_rfl) (by decide) (annOk_of_cuts ?_) eqw15
  have hc : Ann.cuts annw15 = [([1, 1, 1, 0, 1, 0], (cutEnt lw15_0 ow15_0 (loopO stepw15_0)))] := by kernel_rfl
  rw [hc]
  intro x hx
  simp only [List.mem_cons, List.not_mem_nil, or_false] at hx
  rcases hx with rfl
  · have e : Code.at' [1, 1, 1, 0, 1, 0] bodyw15 = Code.at' [1, 1, 1, 0, 1, 0] bodyw15 := by kernel_rfl
    rw [e]; exact okw15_0

theorem entw15 : EntOk Go.Proofs.Try.prog 15 (funEnt Sw15 Fw15) := fun_ok cw15 (fn := Go.Proofs.Try.f15) (c := bodyw15) (by kernel_rfl) (by kernel_rfl) (by kernel_rfl) rfl rfl (by decide) callsw15
noncomputable def Ew15 : List (Nat × Ent) := (15, funEnt Sw15 Fw15) :: Ew14
theorem Ew15_ok : EntsOk Go.Proofs.Try.prog (ofL Ew15) := .cons entw15 Ew14_ok

/-! ### barbican/barbicanref04.Bits -/
noncomputable def bodyw17 : Code := (Go.Proofs.Try.f17.body).getD .skip
abbrev lw17_0 : Lay := ⟨[(1, .ptr 1 0 4)], [.env 3 (.c (.int .i64)), .env 4 (.c (.int .i64)), .reg 1 (.cells [.ints .u64 4])], [(1, 1)]⟩
abbrev ow17_0 : List (AExit × Lay) := [(.exit 0, ⟨[], [.env 3 (.c (.int .i64))], []⟩)]
noncomputable def stepw17_0 : Int × Int × (Nat → Int) → Option ((Int × Int × (Nat → Int)) ⊕ ((Int)))
  | (t3, t4, r1) =>
    if (decide (t4 < 256)) = true then
      (Fw15 (r1, t4)).bind fun y1 =>
        if (y1 == 1) = true then
          some (.inl ((IntKind.i64.wrap (t4 + 1)), (IntKind.i64.wrap (t4 + 1)), r1))
        else
          some (.inl (t3, (IntKind.i64.wrap (t4 + 1)), r1))
    else
      some (.inr t3)

noncomputable def annw17_0 : Ann := .none
noncomputable def Fw17 : (Nat → Int) → Option (Int)
  | a0 =>
    (loopO stepw17_0 (0, 0, a0)).bind fun z2 =>
      some z2

noncomputable def annw17 : Ann := (.seq .none (.seq .none (.seq (.seq .none (.seq (.cut (cutEnt lw17_0 ow17_0 (loopO stepw17_0))) .none)) .none)))
abbrev Sw17 : FSh := ⟨[.val (.agg [.ints .u64 4])], [.val (.c (.int .i64))], [.tmp 2]⟩
noncomputable def cw17 : Ctx Go.Proofs.Try.prog := ⟨wtab, ofL Ew15, wtabOk, Ew15_ok, wdep, word⟩
theorem eqw17_0 : ∀ s : lw17_0.T, exec wtab (ofL Ew15) 16 (Code.at' [1, 1, 0, 1, 0, 0] bodyw17) annw17_0 (fun e st => loopEnd (l := lw17_0) (outs := ow17_0) e st) (lw17_0.enc s) = stepw17_0 s := by
  rintro ⟨t3, t4, r1⟩
  kernel_rfl
theorem okw17_0 : LOk Go.Proofs.Try.prog 16 (cutEnt lw17_0 ow17_0 (loopO stepw17_0)) (Code.at' [1, 1, 0, 1, 0] bodyw17) := by
  have e : Code.at' [1, 1, 0, 1, 0] bodyw17 = .loop (Code.at' [1, 1, 0, 1, 0, 0] bodyw17) := by kernel_rfl
  rw [e]
  refine loop_ok cw17 16 rfl rfl (annOk_of_cuts ?_) eqw17_0
  intro x hx
  exact absurd hx (by show x ∉ ([] : List (List Nat × LEnt)); simp)

theorem eqw17 : ∀ x : psT Sw17.ps, exec wtab (ofL Ew15) 16 bodyw17 annw17 (fin wtab Sw17) (argSt Sw17 x) = Fw17 x := by
  intro x
  kernel_rfl
theorem callsw17 : CallsAs Go.Proofs.Try.prog cw17 17 Sw17 Fw17 := by
  refine fun_calls (fn := Go.Proofs.Try.f17) (c := bodyw17) (ann := annw17) cw17 (by kernel_rfl) (by kernel_rfl) (by kernel_rfl) (by decide) (annOk_of_cuts ?_) eqw17
  have hc : Ann.cuts annw17 = [([1, 1, 0, 1, 0], (cutEnt lw17_0 ow17_0 (loopO stepw17_0)))] := by kernel_rfl
  rw [hc]
  intro x hx
  simp only [List.mem_cons, List.not_mem_nil, or_false] at hx
  rcases hx with rfl
  · have e : Code.at' [1, 1, 0, 1, 0] bodyw17 = Code.at' [1, 1, 0, 1, 0] bodyw17 := by kernel_rfl
    rw [e]; exact okw17_0

theorem entw17 : EntOk Go.Proofs.Try.prog 17 (funEnt Sw17 Fw17) := fun_ok cw17 (fn := Go.Proofs.Try.f17) (c := bodyw17) (by kernel_rfl) (by kernel_rfl) (by kernel_rfl) rfl rfl (by decide) callsw17
noncomputable def Ew17 : List (Nat × Ent) := (17, funEnt Sw17 Fw17) :: Ew15
theorem Ew17_ok : EntsOk Go.Proofs.Try.prog (ofL Ew17) := .cons entw17 Ew15_ok

/-! ### barbican/wide.Shl -/
noncomputable def bodyw18 : Code := (Go.Proofs.Try.f18.body).getD .skip
abbrev lw18_0 : Lay := ⟨[(2, .ptr 2 0 4), (4, .ptr 4 0 4), (5, .ptr 5 0 4)], [.env 1 (.c (.int .i64)), .env 6 (.c (.int .i64)), .reg 2 (.cells [.ints .u64 4]), .reg 4 (.cells [.ints .u64 4]), .reg 5 (.cells [.ints .u64 4])], [(2, 2), (4, 4), (5, 5)]⟩
abbrev ow18_0 : List (AExit × Lay) := [(.exit 0, ⟨[(4, .ptr 4 0 4), (5, .ptr 5 0 4)], [.reg 4 (.cells [.ints .u64 4]), .reg 5 (.cells [.ints .u64 4])], [(4, 4), (5, 5)]⟩)]
noncomputable def stepw18_0 : Int × Int × (Nat → Int) × (Nat → Int) × (Nat → Int) → Option ((Int × Int × (Nat → Int) × (Nat → Int) × (Nat → Int)) ⊕ (((Nat → Int) × (Nat → Int))))
  | (t1, t6, r2, r4, r5) =>
    if (decide (t6 < 4)) = true then
      if (0 : Int) ≤ (IntKind.i64.wrap (t6 - (IntKind.i64.wrap (t1.tdiv 64)))) ∧ (IntKind.i64.wrap (t6 - (IntKind.i64.wrap (t1.tdiv 64)))) < ((4 : Int) : Int) then
        let x2 : Nat := (IntKind.i64.wrap (t6 - (IntKind.i64.wrap (t1.tdiv 64)))).toNat
        if 0 ≤ (t1.tmod 64) then
          if (0 : Int) ≤ t6 ∧ t6 < ((4 : Int) : Int) then
            if (decide (t6 > (IntKind.i64.wrap (t1.tdiv 64)))) = true then
              if (0 : Int) ≤ t6 ∧ t6 < ((4 : Int) : Int) then
                let x3 : Int := ((upd r5 t6.toNat (shlI .u64 (r2 x2) (t1.tmod 64))) t6.toNat)
                let x4 : Int := (IntKind.i64.wrap ((IntKind.i64.wrap (t6 - (IntKind.i64.wrap (t1.tdiv 64)))) - 1))
                if (0 : Int) ≤ x4 ∧ x4 < ((4 : Int) : Int) then
                  if 0 ≤ (IntKind.i64.wrap (64 - (t1.tmod 64))) then
                    let x5 : Int := (shrI .u64 (r2 x4.toNat) (IntKind.i64.wrap (64 - (t1.tmod 64))))
                    if (0 : Int) ≤ t6 ∧ t6 < ((4 : Int) : Int) then
                      let f6 : Nat → Int := (upd (upd r5 t6.toNat (shlI .u64 (r2 x2) (t1.tmod 64))) t6.toNat (bitsOr .u64 x3 x5))
                      some (.inl (t1, (IntKind.i64.wrap (t6 + 1)), r2, r4, f6))
                    else none
                  else none
                else none
              else none
            else
              some (.inl (t1, (IntKind.i64.wrap (t6 + 1)), r2, r4, (upd r5 t6.toNat (shlI .u64 (r2 x2) (t1.tmod 64)))))
          else none
        else none
      else none
    else
      some (.inr (r4, r5))

noncomputable def annw18_0 : Ann := .none
noncomputable def Fw18 : (Nat → Int) × Int → Option ((Nat → Int))
  | (a0, a1) =>
    let x1 : Int := (if 0 < (if 256 < a1 then 256 else a1) then (if 256 < a1 then 256 else a1) else 0)
    (loopO stepw18_0 (x1, (IntKind.i64.wrap (x1.tdiv 64)), a0, (fun _ => 0), (fun _ => 0))).bind fun (z7, z8) =>
      some z8

noncomputable def annw18 : Ann := (.seq .none (.seq .none (.seq .none (.seq (.seq .none (.seq (.cut (cutEnt lw18_0 ow18_0 (loopO stepw18_0))) .none)) .none))))
abbrev Sw18 : FSh := ⟨[.val (.agg [.ints .u64 4]), .val (.c (.int .i64))], [.val (.agg [.ints .u64 4])], [.cell 4 24]⟩
noncomputable def cw18 : Ctx Go.Proofs.Try.prog := ⟨wtab, ofL Ew17, wtabOk, Ew17_ok, wdep, word⟩
theorem eqw18_0 : ∀ s : lw18_0.T, exec wtab (ofL Ew17) 48 (Code.at' [1, 1, 1, 0, 1, 0, 0] bodyw18) annw18_0 (fun e st => loopEnd (l := lw18_0) (outs := ow18_0) e st) (lw18_0.enc s) = stepw18_0 s := by
  rintro ⟨t1, t6, r2, r4, r5⟩
  kernel_rfl
theorem okw18_0 : LOk Go.Proofs.Try.prog 48 (cutEnt lw18_0 ow18_0 (loopO stepw18_0)) (Code.at' [1, 1, 1, 0, 1, 0] bodyw18) := by
  have e : Code.at' [1, 1, 1, 0, 1, 0] bodyw18 = .loop (Code.at' [1, 1, 1, 0, 1, 0, 0] bodyw18) := by kernel_rfl
  rw [e]
  refine loop_ok cw18 48 rfl rfl (annOk_of_cuts ?_) eqw18_0
  intro x hx
  exact absurd hx (by show x ∉ ([] : List (List Nat × LEnt)); simp)

theorem eqw18 : ∀ x : psT Sw18.ps, exec wtab (ofL Ew17) 48 bodyw18 annw18 (fin wtab Sw18) (argSt Sw18 x) = Fw18 x := by
  rintro ⟨a0, a1⟩
  kernel_rfl
theorem callsw18 : CallsAs Go.Proofs.Try.prog cw18 18 Sw18 Fw18 := by
  refine fun_calls (fn := Go.Proofs.Try.f18) (c := bodyw18) (ann := annw18) cw18 (by kernel_rfl) (by kernel_rfl) (by kernel_rfl) (by decide) (annOk_of_cuts ?_) eqw18
  have hc : Ann.cuts annw18 = [([1, 1, 1, 0, 1, 0], (cutEnt lw18_0 ow18_0 (loopO stepw18_0)))] := by kernel_rfl
  rw [hc]
  intro x hx
  simp only [List.mem_cons, List.not_mem_nil, or_false] at hx
  rcases hx with rfl
  · have e : Code.at' [1, 1, 1, 0, 1, 0] bodyw18 = Code.at' [1, 1, 1, 0, 1, 0] bodyw18 := by kernel_rfl
    rw [e]; exact okw18_0

theorem entw18 : EntOk Go.Proofs.Try.prog 18 (funEnt Sw18 Fw18) := fun_ok cw18 (fn := Go.Proofs.Try.f18) (c := bodyw18) (by kernel_rfl) (by kernel_rfl) (by kernel_rfl) rfl rfl (by decide) callsw18
noncomputable def Ew18 : List (Nat × Ent) := (18, funEnt Sw18 Fw18) :: Ew17
theorem Ew18_ok : EntsOk Go.Proofs.Try.prog (ofL Ew18) := .cons entw18 Ew17_ok

/-! ### barbican/barbicanref04.Shifted -/
noncomputable def bodyw41 : Code := (Go.Proofs.Try.f41.body).getD .skip
abbrev lw41_0 : Lay := ⟨[(2, .ptr 2 0 4), (4, .ptr 4 0 4), (5, .ptr 5 0 4)], [.env 1 (.c (.int .i64)), .env 6 (.c (.int .i64)), .reg 2 (.cells [.ints .u64 4]), .reg 4 (.cells [.ints .u64 4]), .reg 5 (.cells [.ints .u64 4])], [(2, 2), (4, 4), (5, 5)]⟩
abbrev ow41_0 : List (AExit × Lay) := [(.exit 0, ⟨[(4, .ptr 4 0 4), (5, .ptr 5 0 4)], [.reg 4 (.cells [.ints .u64 4]), .reg 5 (.cells [.ints .u64 4])], [(4, 4), (5, 5)]⟩)]
noncomputable def stepw41_0 : Int × Int × (Nat → Int) × (Nat → Int) × (Nat → Int) → Option ((Int × Int × (Nat → Int) × (Nat → Int) × (Nat → Int)) ⊕ (((Nat → Int) × (Nat → Int))))
  | (t1, t6, r2, r4, r5) =>
    if (decide (t6 ≥ 0)) = true then
      if (0 : Int) ≤ (IntKind.i64.wrap (t6.tdiv 64)) ∧ (IntKind.i64.wrap (t6.tdiv 64)) < ((4 : Int) : Int) then
        let x1 : Int := (IntKind.u64.wrap (2 * (r5 (IntKind.i64.wrap (t6.tdiv 64)).toNat)))
        (Fw15 (r2, (IntKind.i64.wrap (t6 - t1)))).bind fun y2 =>
          if (0 : Int) ≤ (IntKind.i64.wrap (t6.tdiv 64)) ∧ (IntKind.i64.wrap (t6.tdiv 64)) < ((4 : Int) : Int) then
            let f3 : Nat → Int := (upd r5 (IntKind.i64.wrap (t6.tdiv 64)).toNat (IntKind.u64.wrap (x1 + (IntKind.u64.wrap y2))))
            some (.inl (t1, (IntKind.i64.wrap (t6 - 1)), r2, r4, f3))
          else none
      else none
    else
      some (.inr (r4, r5))

noncomputable def annw41_0 : Ann := .none
noncomputable def Fw41 : (Nat → Int) × Int → Option ((Nat → Int))
  | (a0, a1) =>
    (loopO stepw41_0 (a1, 255, a0, (fun _ => 0), (fun _ => 0))).bind fun (z4, z5) =>
      some z5

noncomputable def annw41 : Ann := (.seq .none (.seq .none (.seq (.seq .none (.seq (.cut (cutEnt lw41_0 ow41_0 (loopO stepw41_0))) .none)) .none)))
abbrev Sw41 : FSh := ⟨[.val (.agg [.ints .u64 4]), .val (.c (.int .i64))], [.val (.agg [.ints .u64 4])], [.cell 4 24]⟩
noncomputable def cw41 : Ctx Go.Proofs.Try.prog := ⟨wtab, ofL Ew18, wtabOk, Ew18_ok, wdep, word⟩
theorem eqw41_0 : ∀ s : lw41_0.T, exec wtab (ofL Ew18) 27 (Code.at' [1, 1, 0, 1, 0, 0] bodyw41) annw41_0 (fun e st => loopEnd (l := lw41_0) (outs := ow41_0) e st) (lw41_0.enc s) = stepw41_0 s := by
  rintro ⟨t1, t6, r2, r4, r5⟩
  kernel_rfl
theorem okw41_0 : LOk Go.Proofs.Try.prog 27 (cutEnt lw41_0 ow41_0 (loopO stepw41_0)) (Code.at' [1, 1, 0, 1, 0] bodyw41) := by
  have e : Code.at' [1, 1, 0, 1, 0] bodyw41 = .loop (Code.at' [1, 1, 0, 1, 0, 0] bodyw41) := by kernel_rfl
  rw [e]
  refine loop_ok cw41 27 rfl rfl (annOk_of_cuts ?_) eqw41_0
  intro x hx
  exact absurd hx (by show x ∉ ([] : List (List Nat × LEnt)); simp)

theorem eqw41 : ∀ x : psT Sw41.ps, exec wtab (ofL Ew18) 27 bodyw41 annw41 (fin wtab Sw41) (argSt Sw41 x) = Fw41 x := by
  rintro ⟨a0, a1⟩
  kernel_rfl
theorem callsw41 : CallsAs Go.Proofs.Try.prog cw41 41 Sw41 Fw41 := by
  refine fun_calls (fn := Go.Proofs.Try.f41) (c := bodyw41) (ann := annw41) cw41 (by kernel_rfl) (by kernel_rfl) (by kernel_rfl) (by decide) (annOk_of_cuts ?_) eqw41
  have hc : Ann.cuts annw41 = [([1, 1, 0, 1, 0], (cutEnt lw41_0 ow41_0 (loopO stepw41_0)))] := by kernel_rfl
  rw [hc]
  intro x hx
  simp only [List.mem_cons, List.not_mem_nil, or_false] at hx
  rcases hx with rfl
  · have e : Code.at' [1, 1, 0, 1, 0] bodyw41 = Code.at' [1, 1, 0, 1, 0] bodyw41 := by kernel_rfl
    rw [e]; exact okw41_0

theorem entw41 : EntOk Go.Proofs.Try.prog 41 (funEnt Sw41 Fw41) := fun_ok cw41 (fn := Go.Proofs.Try.f41) (c := bodyw41) (by kernel_rfl) (by kernel_rfl) (by kernel_rfl) rfl rfl (by decide) callsw41
noncomputable def Ew41 : List (Nat × Ent) := (41, funEnt Sw41 Fw41) :: Ew18
theorem Ew41_ok : EntsOk Go.Proofs.Try.prog (ofL Ew41) := .cons entw41 Ew18_ok

/-! ### barbican/barbicanref04.Shl -/
noncomputable def bodyw19 : Code := (Go.Proofs.Try.f19.body).getD .skip
noncomputable def Fw19 : (Nat → Int) × Int → Option ((Nat → Int))
  | (a0, a1) =>
    if (decide (a1 < 0)) = true then
      (Fw41 (a0, 0)).bind fun y1 =>
        some y1
    else
      if (decide (a1 > 256)) = true then
        (Fw41 (a0, 256)).bind fun y2 =>
          some y2
      else
        (Fw41 (a0, a1)).bind fun y3 =>
          some y3

noncomputable def annw19 : Ann := .none
abbrev Sw19 : FSh := ⟨[.val (.agg [.ints .u64 4]), .val (.c (.int .i64))], [.val (.agg [.ints .u64 4])], [.cell 4 24]⟩
noncomputable def cw19 : Ctx Go.Proofs.Try.prog := ⟨wtab, ofL Ew41, wtabOk, Ew41_ok, wdep, word⟩
theorem eqw19 : ∀ x : psT Sw19.ps, exec wtab (ofL Ew41) 12 bodyw19 annw19 (fin wtab Sw19) (argSt Sw19 x) = Fw19 x := by
  rintro ⟨a0, a1⟩
  kernel_rfl
theorem callsw19 : CallsAs Go.Proofs.Try.prog cw19 19 Sw19 Fw19 := by
  refine fun_calls (fn := Go.Proofs.Try.f19) (c := bodyw19) (ann := annw19) cw19 (by kernel_rfl) (by kernel_rfl) (by kernel_rfl) (by decide) (annOk_of_cuts ?_) eqw19
  intro x hx
  exact absurd hx (by show x ∉ ([] : List (List Nat × LEnt)); simp)

theorem entw19 : EntOk Go.Proofs.Try.prog 19 (funEnt Sw19 Fw19) := fun_ok cw19 (fn := Go.Proofs.Try.f19) (c := bodyw19) (by kernel_rfl) (by kernel_rfl) (by kernel_rfl) rfl rfl (by decide) callsw19
noncomputable def Ew19 : List (Nat × Ent) := (19, funEnt Sw19 Fw19) :: Ew41
theorem Ew19_ok : EntsOk Go.Proofs.Try.prog (ofL Ew19) := .cons entw19 Ew41_ok

/-! ### barbican/wide.Shr -/
noncomputable def bodyw20 : Code := (Go.Proofs.Try.f20.body).getD .skip
abbrev lw20_0 : Lay := ⟨[(2, .ptr 2 0 4), (4, .ptr 4 0 4), (5, .ptr 5 0 4)], [.env 1 (.c (.int .i64)), .env 6 (.c (.int .i64)), .reg 2 (.cells [.ints .u64 4]), .reg 4 (.cells [.ints .u64 4]), .reg 5 (.cells [.ints .u64 4])], [(2, 2), (4, 4), (5, 5)]⟩
abbrev ow20_0 : List (AExit × Lay) := [(.exit 0, ⟨[(4, .ptr 4 0 4), (5, .ptr 5 0 4)], [.reg 4 (.cells [.ints .u64 4]), .reg 5 (.cells [.ints .u64 4])], [(4, 4), (5, 5)]⟩)]
noncomputable def stepw20_0 : Int × Int × (Nat → Int) × (Nat → Int) × (Nat → Int) → Option ((Int × Int × (Nat → Int) × (Nat → Int) × (Nat → Int)) ⊕ (((Nat → Int) × (Nat → Int))))
  | (t1, t6, r2, r4, r5) =>
    if (decide (t6 < 4)) = true then
      if (0 : Int) ≤ t6 ∧ t6 < ((4 : Int) : Int) then
        if 0 ≤ (t1.tmod 64) then
          if (0 : Int) ≤ (IntKind.i64.wrap (t6 - (IntKind.i64.wrap (t1.tdiv 64)))) ∧ (IntKind.i64.wrap (t6 - (IntKind.i64.wrap (t1.tdiv 64)))) < ((4 : Int) : Int) then
            let x2 : Nat := (IntKind.i64.wrap (t6 - (IntKind.i64.wrap (t1.tdiv 64)))).toNat
            if (decide (t6 < 3)) = true then
              if (0 : Int) ≤ (IntKind.i64.wrap (t6 - (IntKind.i64.wrap (t1.tdiv 64)))) ∧ (IntKind.i64.wrap (t6 - (IntKind.i64.wrap (t1.tdiv 64)))) < ((4 : Int) : Int) then
                let x3 : Nat := (IntKind.i64.wrap (t6 - (IntKind.i64.wrap (t1.tdiv 64)))).toNat
                if (0 : Int) ≤ (IntKind.i64.wrap (t6 + 1)) ∧ (IntKind.i64.wrap (t6 + 1)) < ((4 : Int) : Int) then
                  if 0 ≤ (IntKind.i64.wrap (64 - (t1.tmod 64))) then
                    let x4 : Int := (shlI .u64 (r2 (IntKind.i64.wrap (t6 + 1)).toNat) (IntKind.i64.wrap (64 - (t1.tmod 64))))
                    let x5 : Int := (bitsOr .u64 ((upd r5 x2 (shrI .u64 (r2 t6.toNat) (t1.tmod 64))) x3) x4)
                    if (0 : Int) ≤ (IntKind.i64.wrap (t6 - (IntKind.i64.wrap (t1.tdiv 64)))) ∧ (IntKind.i64.wrap (t6 - (IntKind.i64.wrap (t1.tdiv 64)))) < ((4 : Int) : Int) then
                      let x6 : Nat := (IntKind.i64.wrap (t6 - (IntKind.i64.wrap (t1.tdiv 64)))).toNat
                      let f7 : Nat → Int := (upd (upd r5 x2 (shrI .u64 (r2 t6.toNat) (t1.tmod 64))) x6 x5)
                      some (.inl (t1, (IntKind.i64.wrap (t6 + 1)), r2, r4, f7))
                    else none
                  else none
                else none
              else none
            else
              some (.inl (t1, (IntKind.i64.wrap (t6 + 1)), r2, r4, (upd r5 x2 (shrI .u64 (r2 t6.toNat) (t1.tmod 64)))))
          else none
        else none
      else none
    else
      some (.inr (r4, r5))

noncomputable def annw20_0 : Ann := .none
noncomputable def Fw20 : (Nat → Int) × Int → Option ((Nat → Int))
  | (a0, a1) =>
    let x1 : Int := (if 0 < (if 256 < a1 then 256 else a1) then (if 256 < a1 then 256 else a1) else 0)
    (loopO stepw20_0 (x1, (IntKind.i64.wrap (x1.tdiv 64)), a0, (fun _ => 0), (fun _ => 0))).bind fun (z8, z9) =>
      some z9

noncomputable def annw20 : Ann := (.seq .none (.seq .none (.seq .none (.seq (.seq .none (.seq (.cut (cutEnt lw20_0 ow20_0 (loopO stepw20_0))) .none)) .none))))
abbrev Sw20 : FSh := ⟨[.val (.agg [.ints .u64 4]), .val (.c (.int .i64))], [.val (.agg [.ints .u64 4])], [.cell 4 24]⟩
noncomputable def cw20 : Ctx Go.Proofs.Try.prog := ⟨wtab, ofL Ew19, wtabOk, Ew19_ok, wdep, word⟩
theorem eqw20_0 : ∀ s : lw20_0.T, exec wtab (ofL Ew19) 46 (Code.at' [1, 1, 1, 0, 1, 0, 0] bodyw20) annw20_0 (fun e st => loopEnd (l := lw20_0) (outs := ow20_0) e st) (lw20_0.enc s) = stepw20_0 s := by
  rintro ⟨t1, t6, r2, r4, r5⟩
  kernel_rfl
theorem okw20_0 : LOk Go.Proofs.Try.prog 46 (cutEnt lw20_0 ow20_0 (loopO stepw20_0)) (Code.at' [1, 1, 1, 0, 1, 0] bodyw20) := by
  have e : Code.at' [1, 1, 1, 0, 1, 0] bodyw20 = .loop (Code.at' [1, 1, 1, 0, 1, 0, 0] bodyw20) := by kernel_rfl
  rw [e]
  refine loop_ok cw20 46 rfl rfl (annOk_of_cuts ?_) eqw20_0
  intro x hx
  exact absurd hx (by show x ∉ ([] : List (List Nat × LEnt)); simp)

theorem eqw20 : ∀ x : psT Sw20.ps, exec wtab (ofL Ew19) 46 bodyw20 annw20 (fin wtab Sw20) (argSt Sw20 x) = Fw20 x := by
  rintro ⟨a0, a1⟩
  kernel_rfl
theorem callsw20 : CallsAs Go.Proofs.Try.prog cw20 20 Sw20 Fw20 := by
  refine fun_calls (fn := Go.Proofs.Try.f20) (c := bodyw20) (ann := annw20) cw20 (by kernel_rfl) (by kernel_rfl) (by kernel_rfl) (by decide) (annOk_of_cuts ?_) eqw20
  have hc : Ann.cuts annw20 = [([1, 1, 1, 0, 1, 0], (cutEnt lw20_0 ow20_0 (loopO stepw20_0)))] := by kernel_rfl
  rw [hc]
  intro x hx
  simp only [List.mem_cons, List.not_mem_nil, or_false] at hx
  rcases hx with rfl
  · have e : Code.at' [1, 1, 1, 0, 1, 0] bodyw20 = Code.at' [1, 1, 1, 0, 1, 0] bodyw20 := by kernel_rfl
    rw [e]; exact okw20_0

theorem entw20 : EntOk Go.Proofs.Try.prog 20 (funEnt Sw20 Fw20) := fun_ok cw20 (fn := Go.Proofs.Try.f20) (c := bodyw20) (by kernel_rfl) (by kernel_rfl) (by kernel_rfl) rfl rfl (by decide) callsw20
noncomputable def Ew20 : List (Nat × Ent) := (20, funEnt Sw20 Fw20) :: Ew19
theorem Ew20_ok : EntsOk Go.Proofs.Try.prog (ofL Ew20) := .cons entw20 Ew19_ok

/-! ### barbican/barbicanref04.Shr -/
noncomputable def bodyw21 : Code := (Go.Proofs.Try.f21.body).getD .skip
noncomputable def Fw21 : (Nat → Int) × Int → Option ((Nat → Int))
  | (a0, a1) =>
    if (decide (a1 < 0)) = true then
      (Fw41 (a0, (IntKind.i64.wrap (0 - 0)))).bind fun y1 =>
        some y1
    else
      if (decide (a1 > 256)) = true then
        (Fw41 (a0, (IntKind.i64.wrap (0 - 256)))).bind fun y2 =>
          some y2
      else
        (Fw41 (a0, (IntKind.i64.wrap (0 - a1)))).bind fun y3 =>
          some y3

noncomputable def annw21 : Ann := .none
abbrev Sw21 : FSh := ⟨[.val (.agg [.ints .u64 4]), .val (.c (.int .i64))], [.val (.agg [.ints .u64 4])], [.cell 4 24]⟩
noncomputable def cw21 : Ctx Go.Proofs.Try.prog := ⟨wtab, ofL Ew20, wtabOk, Ew20_ok, wdep, word⟩
theorem eqw21 : ∀ x : psT Sw21.ps, exec wtab (ofL Ew20) 13 bodyw21 annw21 (fin wtab Sw21) (argSt Sw21 x) = Fw21 x := by
  rintro ⟨a0, a1⟩
  kernel_rfl
theorem callsw21 : CallsAs Go.Proofs.Try.prog cw21 21 Sw21 Fw21 := by
  refine fun_calls (fn := Go.Proofs.Try.f21) (c := bodyw21) (ann := annw21) cw21 (by kernel_rfl) (by kernel_rfl) (by kernel_rfl) (by decide) (annOk_of_cuts ?_) eqw21
  intro x hx
  exact absurd hx (by show x ∉ ([] : List (List Nat × LEnt)); simp)

theorem entw21 : EntOk Go.Proofs.Try.prog 21 (funEnt Sw21 Fw21) := fun_ok cw21 (fn := Go.Proofs.Try.f21) (c := bodyw21) (by kernel_rfl) (by kernel_rfl) (by kernel_rfl) rfl rfl (by decide) callsw21
noncomputable def Ew21 : List (Nat × Ent) := (21, funEnt Sw21 Fw21) :: Ew20
theorem Ew21_ok : EntsOk Go.Proofs.Try.prog (ofL Ew21) := .cons entw21 Ew20_ok

/-! ### barbican/barbicanlaw04.WideShifts -/
noncomputable def bodyw4 : Code := (Go.Proofs.Try.f4.body).getD .skip
noncomputable def Fw4 : (Nat → Int) × Int → Option (Bool)
  | (a0, a1) =>
    (Fw9 ()).bind fun y1 =>
      (Fw14 (a0, a1)).bind fun y2 =>
        (Fw15 (a0, a1)).bind fun y3 =>
          (Fw16 a0).bind fun y4 =>
            (Fw17 a0).bind fun y5 =>
              (Fw18 (a0, a1)).bind fun y6 =>
                (Fw19 (a0, a1)).bind fun y7 =>
                  (Fw20 (a0, a1)).bind fun y8 =>
                    (Fw21 (a0, a1)).bind fun y9 =>
                      if (decide (a1 > 0)) = true then
                        if (decide (a1 > 255)) = false then
                          (Fw16 a0).bind fun y10 =>
                            if (decide (y10 > (IntKind.i64.wrap (256 - a1)))) = false then
                              (Fw18 (a0, a1)).bind fun y11 =>
                                (Fw20 (y11, a1)).bind fun y12 =>
                                  if y1 = true then
                                    if (y2 == y3) = true then
                                      if (y4 == y5) = true then
                                        if (arrEq 4 y6 y7) = true then
                                          if (arrEq 4 y8 y9) = true then
                                            some (arrEq 4 y12 a0)
                                          else
                                            some false
                                        else
                                          some false
                                      else
                                        some false
                                    else
                                      some false
                                  else
                                    some false
                            else
                              if y1 = true then
                                if (y2 == y3) = true then
                                  if (y4 == y5) = true then
                                    if (arrEq 4 y6 y7) = true then
                                      if (arrEq 4 y8 y9) = true then
                                        some true
                                      else
                                        some false
                                    else
                                      some false
                                  else
                                    some false
                                else
                                  some false
                              else
                                some false
                        else
                          if y1 = true then
                            if (y2 == y3) = true then
                              if (y4 == y5) = true then
                                if (arrEq 4 y6 y7) = true then
                                  if (arrEq 4 y8 y9) = true then
                                    some true
                                  else
                                    some false
                                else
                                  some false
                              else
                                some false
                            else
                              some false
                          else
                            some false
                      else
                        (Fw18 (a0, a1)).bind fun y13 =>
                          (Fw20 (y13, a1)).bind fun y14 =>
                            if y1 = true then
                              if (y2 == y3) = true then
                                if (y4 == y5) = true then
                                  if (arrEq 4 y6 y7) = true then
                                    if (arrEq 4 y8 y9) = true then
                                      some (arrEq 4 y14 a0)
                                    else
                                      some false
                                  else
                                    some false
                                else
                                  some false
                              else
                                some false
                            else
                              some false

noncomputable def annw4 : Ann := .none
abbrev Sw4 : FSh := ⟨[.val (.agg [.ints .u64 4]), .val (.c (.int .i64))], [.val (.c (.bool))], [.tmp 4]⟩
noncomputable def cw4 : Ctx Go.Proofs.Try.prog := ⟨wtab, ofL Ew21, wtabOk, Ew21_ok, wdep, word⟩
theorem eqw4 : ∀ x : psT Sw4.ps, exec wtab (ofL Ew21) 78 bodyw4 annw4 (fin wtab Sw4) (argSt Sw4 x) = Fw4 x := by
  rintro ⟨a0, a1⟩
  kernel_rfl
theorem callsw4 : CallsAs Go.Proofs.Try.prog cw4 4 Sw4 Fw4 := by
  refine fun_calls (fn := Go.Proofs.Try.f4) (c := bodyw4) (ann := annw4) cw4 (by kernel_rfl) (by kernel_rfl) (by kernel_rfl) (by decide) (annOk_of_cuts ?_) eqw4
  intro x hx
  exact absurd hx (by show x ∉ ([] : List (List Nat × LEnt)); simp)

theorem entw4 : EntOk Go.Proofs.Try.prog 4 (funEnt Sw4 Fw4) := fun_ok cw4 (fn := Go.Proofs.Try.f4) (c := bodyw4) (by kernel_rfl) (by kernel_rfl) (by kernel_rfl) rfl rfl (by decide) callsw4
noncomputable def Ew4 : List (Nat × Ent) := (4, funEnt Sw4 Fw4) :: Ew21
theorem Ew4_ok : EntsOk Go.Proofs.Try.prog (ofL Ew4) := .cons entw4 Ew21_ok

/-! ### barbican/wide.Of -/
noncomputable def bodyw22 : Code := (Go.Proofs.Try.f22.body).getD .skip
abbrev lw22_0 : Lay := ⟨[(2, .ptr 2 0 4), (4, .ptr 4 0 4)], [.env 12 (.c (.fz (.int .u8))), .env 13 (.c (.int .i64)), .env 14 (.c (.int .i64)), .reg 2 (.cells [.ints .u64 4]), .reg 4 (.cells [.ints .u64 4])], [(2, 2), (4, 4)]⟩
abbrev ow22_0 : List (AExit × Lay) := [(.exit 0, ⟨[(2, .ptr 2 0 4), (4, .ptr 4 0 4)], [.reg 2 (.cells [.ints .u64 4]), .reg 4 (.cells [.ints .u64 4])], [(2, 2), (4, 4)]⟩)]
noncomputable def stepw22_0 : (List Int) × Int × Int × (Nat → Int) × (Nat → Int) → Option (((List Int) × Int × Int × (Nat → Int) × (Nat → Int)) ⊕ (((Nat → Int) × (Nat → Int))))
  | (t12, t13, t14, r2, r4) =>
    if (decide (t14 < t13)) = true then
      if (0 : Int) ≤ t14 ∧ t14 < (t12.length : Int) then
        if (0 : Int) ≤ (IntKind.i64.wrap ((IntKind.i64.wrap (31 - t14)).tdiv 8)) ∧ (IntKind.i64.wrap ((IntKind.i64.wrap (31 - t14)).tdiv 8)) < ((4 : Int) : Int) then
          let x1 : Nat := (IntKind.i64.wrap ((IntKind.i64.wrap (31 - t14)).tdiv 8)).toNat
          let x2 : Int := (IntKind.i64.wrap (8 * ((IntKind.i64.wrap (31 - t14)).tmod 8)))
          if 0 ≤ x2 then
            let x3 : Int := (bitsOr .u64 (r4 x1) (shlI .u64 (IntKind.u64.wrap (t12.getD t14.toNat 0)) x2))
            if (0 : Int) ≤ (IntKind.i64.wrap ((IntKind.i64.wrap (31 - t14)).tdiv 8)) ∧ (IntKind.i64.wrap ((IntKind.i64.wrap (31 - t14)).tdiv 8)) < ((4 : Int) : Int) then
              let x4 : Nat := (IntKind.i64.wrap ((IntKind.i64.wrap (31 - t14)).tdiv 8)).toNat
              some (.inl (t12, t13, (IntKind.i64.wrap (t14 + 1)), r2, (upd r4 x4 x3)))
            else none
          else none
        else none
      else none
    else
      some (.inr (r2, r4))

noncomputable def annw22_0 : Ann := .none
noncomputable def Fw22 : List Int → Option ((Nat → Int) × Int)
  | a0 =>
    if ((a0.length : Int) != 32) = true then
      some ((fun _ => 0), 41)
    else
      (loopO stepw22_0 (a0, (a0.length : Int), 0, (fun _ => 0), (fun _ => 0))).bind fun (z5, z6) =>
        some (z6, 0)

noncomputable def annw22 : Ann := (.seq .none (.seq .none (.seq .none (.seq (.seq .none (.seq (.cut (cutEnt lw22_0 ow22_0 (loopO stepw22_0))) .none)) .none))))
abbrev Sw22 : FSh := ⟨[.ints .u8], [.val (.agg [.ints .u64 4]), .val (.c (.int .i64))], [.cell 2 24, .tmp 3]⟩
noncomputable def cw22 : Ctx Go.Proofs.Try.prog := ⟨wtab, ofL Ew4, wtabOk, Ew4_ok, wdep, word⟩
theorem eqw22_0 : ∀ s : lw22_0.T, exec wtab (ofL Ew4) 35 (Code.at' [1, 1, 1, 0, 1, 0, 0] bodyw22) annw22_0 (fun e st => loopEnd (l := lw22_0) (outs := ow22_0) e st) (lw22_0.enc s) = stepw22_0 s := by
  rintro ⟨t12, t13, t14, r2, r4⟩
  kernel_rfl
theorem okw22_0 : LOk Go.Proofs.Try.prog 35 (cutEnt lw22_0 ow22_0 (loopO stepw22_0)) (Code.at' [1, 1, 1, 0, 1, 0] bodyw22) := by
  have e : Code.at' [1, 1, 1, 0, 1, 0] bodyw22 = .loop (Code.at' [1, 1, 1, 0, 1, 0, 0] bodyw22) := by kernel_rfl
  rw [e]
  refine loop_ok cw22 35 rfl rfl (annOk_of_cuts ?_) eqw22_0
  intro x hx
  exact absurd hx (by show x ∉ ([] : List (List Nat × LEnt)); simp)

theorem eqw22 : ∀ x : psT Sw22.ps, exec wtab (ofL Ew4) 35 bodyw22 annw22 (fin wtab Sw22) (argSt Sw22 x) = Fw22 x := by
  intro x
  kernel_rfl
theorem callsw22 : CallsAs Go.Proofs.Try.prog cw22 22 Sw22 Fw22 := by
  refine fun_calls (fn := Go.Proofs.Try.f22) (c := bodyw22) (ann := annw22) cw22 (by kernel_rfl) (by kernel_rfl) (by kernel_rfl) (by decide) (annOk_of_cuts ?_) eqw22
  have hc : Ann.cuts annw22 = [([1, 1, 1, 0, 1, 0], (cutEnt lw22_0 ow22_0 (loopO stepw22_0)))] := by kernel_rfl
  rw [hc]
  intro x hx
  simp only [List.mem_cons, List.not_mem_nil, or_false] at hx
  rcases hx with rfl
  · have e : Code.at' [1, 1, 1, 0, 1, 0] bodyw22 = Code.at' [1, 1, 1, 0, 1, 0] bodyw22 := by kernel_rfl
    rw [e]; exact okw22_0

theorem entw22 : EntOk Go.Proofs.Try.prog 22 (funEnt Sw22 Fw22) := fun_ok cw22 (fn := Go.Proofs.Try.f22) (c := bodyw22) (by kernel_rfl) (by kernel_rfl) (by kernel_rfl) rfl rfl (by decide) callsw22
noncomputable def Ew22 : List (Nat × Ent) := (22, funEnt Sw22 Fw22) :: Ew4
theorem Ew22_ok : EntsOk Go.Proofs.Try.prog (ofL Ew22) := .cons entw22 Ew4_ok

/-! ### barbican/barbicanref04.Of -/
noncomputable def bodyw23 : Code := (Go.Proofs.Try.f23.body).getD .skip
abbrev lw23_0 : Lay := ⟨[(2, .ptr 2 0 4), (3, .ptr 3 0 4)], [.env 0 (.c (.fz (.int .u8))), .env 4 (.c (.int .i64)), .reg 2 (.cells [.ints .u64 4]), .reg 3 (.cells [.ints .u64 4])], [(2, 2), (3, 3)]⟩
abbrev ow23_0 : List (AExit × Lay) := [(.exit 0, ⟨[(2, .ptr 2 0 4), (3, .ptr 3 0 4)], [.reg 2 (.cells [.ints .u64 4]), .reg 3 (.cells [.ints .u64 4])], [(2, 2), (3, 3)]⟩)]
noncomputable def stepw23_0 : (List Int) × Int × (Nat → Int) × (Nat → Int) → Option (((List Int) × Int × (Nat → Int) × (Nat → Int)) ⊕ (((Nat → Int) × (Nat → Int))))
  | (t0, t4, r2, r3) =>
    if (decide (t4 < 32)) = true then
      if (0 : Int) ≤ (IntKind.i64.wrap (3 - (IntKind.i64.wrap (t4.tdiv 8)))) ∧ (IntKind.i64.wrap (3 - (IntKind.i64.wrap (t4.tdiv 8)))) < ((4 : Int) : Int) then
        let x1 : Nat := (IntKind.i64.wrap (3 - (IntKind.i64.wrap (t4.tdiv 8)))).toNat
        if (0 : Int) ≤ t4 ∧ t4 < (t0.length : Int) then
          let x2 : Int := (IntKind.u64.wrap ((IntKind.u64.wrap ((r3 x1) * 256)) + (IntKind.u64.wrap (t0.getD t4.toNat 0))))
          if (0 : Int) ≤ (IntKind.i64.wrap (3 - (IntKind.i64.wrap (t4.tdiv 8)))) ∧ (IntKind.i64.wrap (3 - (IntKind.i64.wrap (t4.tdiv 8)))) < ((4 : Int) : Int) then
            let x3 : Nat := (IntKind.i64.wrap (3 - (IntKind.i64.wrap (t4.tdiv 8)))).toNat
            some (.inl (t0, (IntKind.i64.wrap (t4 + 1)), r2, (upd r3 x3 x2)))
          else none
        else none
      else none
    else
      some (.inr (r2, r3))

noncomputable def annw23_0 : Ann := .none
noncomputable def Fw23 : List Int → Option ((Nat → Int))
  | a0 =>
    (loopO stepw23_0 (a0, 0, (fun _ => 0), (fun _ => 0))).bind fun (z4, z5) =>
      some z5

noncomputable def annw23 : Ann := (.seq .none (.seq .none (.seq (.seq .none (.seq (.cut (cutEnt lw23_0 ow23_0 (loopO stepw23_0))) .none)) .none)))
abbrev Sw23 : FSh := ⟨[.ints .u8], [.val (.agg [.ints .u64 4])], [.cell 2 24]⟩
noncomputable def cw23 : Ctx Go.Proofs.Try.prog := ⟨wtab, ofL Ew22, wtabOk, Ew22_ok, wdep, word⟩
theorem eqw23_0 : ∀ s : lw23_0.T, exec wtab (ofL Ew22) 27 (Code.at' [1, 1, 0, 1, 0, 0] bodyw23) annw23_0 (fun e st => loopEnd (l := lw23_0) (outs := ow23_0) e st) (lw23_0.enc s) = stepw23_0 s := by
  rintro ⟨t0, t4, r2, r3⟩
  kernel_rfl
theorem okw23_0 : LOk Go.Proofs.Try.prog 27 (cutEnt lw23_0 ow23_0 (loopO stepw23_0)) (Code.at' [1, 1, 0, 1, 0] bodyw23) := by
  have e : Code.at' [1, 1, 0, 1, 0] bodyw23 = .loop (Code.at' [1, 1, 0, 1, 0, 0] bodyw23) := by kernel_rfl
  rw [e]
  refine loop_ok cw23 27 rfl rfl (annOk_of_cuts ?_) eqw23_0
  intro x hx
  exact absurd hx (by show x ∉ ([] : List (List Nat × LEnt)); simp)

theorem eqw23 : ∀ x : psT Sw23.ps, exec wtab (ofL Ew22) 27 bodyw23 annw23 (fin wtab Sw23) (argSt Sw23 x) = Fw23 x := by
  intro x
  kernel_rfl
theorem callsw23 : CallsAs Go.Proofs.Try.prog cw23 23 Sw23 Fw23 := by
  refine fun_calls (fn := Go.Proofs.Try.f23) (c := bodyw23) (ann := annw23) cw23 (by kernel_rfl) (by kernel_rfl) (by kernel_rfl) (by decide) (annOk_of_cuts ?_) eqw23
  have hc : Ann.cuts annw23 = [([1, 1, 0, 1, 0], (cutEnt lw23_0 ow23_0 (loopO stepw23_0)))] := by kernel_rfl
  rw [hc]
  intro x hx
  simp only [List.mem_cons, List.not_mem_nil, or_false] at hx
  rcases hx with rfl
  · have e : Code.at' [1, 1, 0, 1, 0] bodyw23 = Code.at' [1, 1, 0, 1, 0] bodyw23 := by kernel_rfl
    rw [e]; exact okw23_0

theorem entw23 : EntOk Go.Proofs.Try.prog 23 (funEnt Sw23 Fw23) := fun_ok cw23 (fn := Go.Proofs.Try.f23) (c := bodyw23) (by kernel_rfl) (by kernel_rfl) (by kernel_rfl) rfl rfl (by decide) callsw23
noncomputable def Ew23 : List (Nat × Ent) := (23, funEnt Sw23 Fw23) :: Ew22
theorem Ew23_ok : EntsOk Go.Proofs.Try.prog (ofL Ew23) := .cons entw23 Ew22_ok

/-! ### barbican/wide.Bytes -/
noncomputable def bodyw24 : Code := (Go.Proofs.Try.f24.body).getD .skip
abbrev lw24_0 : Lay := ⟨[(1, .ptr 1 0 4), (2, .ptr 2 0 32), (3, .ptr 3 0 32)], [.env 6 (.c (.int .i64)), .reg 1 (.cells [.ints .u64 4]), .reg 2 (.cells [.ints .u8 32]), .reg 3 (.cells [.ints .u8 32])], [(1, 1), (2, 2), (3, 3)]⟩
abbrev ow24_0 : List (AExit × Lay) := [(.exit 0, ⟨[(2, .ptr 2 0 32), (3, .ptr 3 0 32)], [.reg 2 (.cells [.ints .u8 32]), .reg 3 (.cells [.ints .u8 32])], [(2, 2), (3, 3)]⟩)]
noncomputable def stepw24_0 : Int × (Nat → Int) × (Nat → Int) × (Nat → Int) → Option ((Int × (Nat → Int) × (Nat → Int) × (Nat → Int)) ⊕ (((Nat → Int) × (Nat → Int))))
  | (t6, r1, r2, r3) =>
    if (decide (t6 < 32)) = true then
      if (0 : Int) ≤ (IntKind.i64.wrap ((IntKind.i64.wrap (31 - t6)).tdiv 8)) ∧ (IntKind.i64.wrap ((IntKind.i64.wrap (31 - t6)).tdiv 8)) < ((4 : Int) : Int) then
        let x1 : Nat := (IntKind.i64.wrap ((IntKind.i64.wrap (31 - t6)).tdiv 8)).toNat
        let x2 : Int := (IntKind.i64.wrap (8 * ((IntKind.i64.wrap (31 - t6)).tmod 8)))
        if 0 ≤ x2 then
          if (0 : Int) ≤ t6 ∧ t6 < ((32 : Int) : Int) then
            some (.inl ((IntKind.i64.wrap (t6 + 1)), r1, r2, (upd r3 t6.toNat (IntKind.u8.wrap (shrI .u64 (r1 x1) x2)))))
          else none
        else none
      else none
    else
      some (.inr (r2, r3))

noncomputable def annw24_0 : Ann := .none
noncomputable def Fw24 : (Nat → Int) → Option ((Nat → Int))
  | a0 =>
    (loopO stepw24_0 (0, a0, (fun _ => 0), (fun _ => 0))).bind fun (z3, z4) =>
      some z4

noncomputable def annw24 : Ann := (.seq .none (.seq .none (.seq (.seq .none (.seq (.cut (cutEnt lw24_0 ow24_0 (loopO stepw24_0))) .none)) .none)))
abbrev Sw24 : FSh := ⟨[.val (.agg [.ints .u64 4])], [.val (.agg [.ints .u8 32])], [.cell 2 38]⟩
noncomputable def cw24 : Ctx Go.Proofs.Try.prog := ⟨wtab, ofL Ew23, wtabOk, Ew23_ok, wdep, word⟩
theorem eqw24_0 : ∀ s : lw24_0.T, exec wtab (ofL Ew23) 24 (Code.at' [1, 1, 0, 1, 0, 0] bodyw24) annw24_0 (fun e st => loopEnd (l := lw24_0) (outs := ow24_0) e st) (lw24_0.enc s) = stepw24_0 s := by
  rintro ⟨t6, r1, r2, r3⟩
  kernel_rfl
theorem okw24_0 : LOk Go.Proofs.Try.prog 24 (cutEnt lw24_0 ow24_0 (loopO stepw24_0)) (Code.at' [1, 1, 0, 1, 0] bodyw24) := by
  have e : Code.at' [1, 1, 0, 1, 0] bodyw24 = .loop (Code.at' [1, 1, 0, 1, 0, 0] bodyw24) := by kernel_rfl
  rw [e]
  refine loop_ok cw24 24 rfl rfl (annOk_of_cuts ?_) eqw24_0
  intro x hx
  exact absurd hx (by show x ∉ ([] : List (List Nat × LEnt)); simp)

theorem eqw24 : ∀ x : psT Sw24.ps, exec wtab (ofL Ew23) 24 bodyw24 annw24 (fin wtab Sw24) (argSt Sw24 x) = Fw24 x := by
  intro x
  kernel_rfl
theorem callsw24 : CallsAs Go.Proofs.Try.prog cw24 24 Sw24 Fw24 := by
  refine fun_calls (fn := Go.Proofs.Try.f24) (c := bodyw24) (ann := annw24) cw24 (by kernel_rfl) (by kernel_rfl) (by kernel_rfl) (by decide) (annOk_of_cuts ?_) eqw24
  have hc : Ann.cuts annw24 = [([1, 1, 0, 1, 0], (cutEnt lw24_0 ow24_0 (loopO stepw24_0)))] := by kernel_rfl
  rw [hc]
  intro x hx
  simp only [List.mem_cons, List.not_mem_nil, or_false] at hx
  rcases hx with rfl
  · have e : Code.at' [1, 1, 0, 1, 0] bodyw24 = Code.at' [1, 1, 0, 1, 0] bodyw24 := by kernel_rfl
    rw [e]; exact okw24_0

theorem entw24 : EntOk Go.Proofs.Try.prog 24 (funEnt Sw24 Fw24) := fun_ok cw24 (fn := Go.Proofs.Try.f24) (c := bodyw24) (by kernel_rfl) (by kernel_rfl) (by kernel_rfl) rfl rfl (by decide) callsw24
noncomputable def Ew24 : List (Nat × Ent) := (24, funEnt Sw24 Fw24) :: Ew23
theorem Ew24_ok : EntsOk Go.Proofs.Try.prog (ofL Ew24) := .cons entw24 Ew23_ok

/-! ### barbican/barbicanref04.Bytes -/
noncomputable def bodyw25 : Code := (Go.Proofs.Try.f25.body).getD .skip
abbrev lw25_0 : Lay := ⟨[(2, .ptr 2 0 32), (3, .ptr 3 0 32), (4, .full 7)], [.env 5 (.c (.int .i64)), .reg 2 (.cells [.ints .u8 32]), .reg 3 (.cells [.ints .u8 32]), .reg 7 (.row 59 .u32)], [(2, 2), (3, 3), (7, 4)]⟩
abbrev ow25_0 : List (AExit × Lay) := [(.exit 0, ⟨[(2, .ptr 2 0 32), (3, .ptr 3 0 32)], [.reg 2 (.cells [.ints .u8 32]), .reg 3 (.cells [.ints .u8 32])], [(2, 2), (3, 3)]⟩)]
noncomputable def stepw25_0 : Int × (Nat → Int) × (Nat → Int) × List Int → Option ((Int × (Nat → Int) × (Nat → Int) × List Int) ⊕ (((Nat → Int) × (Nat → Int))))
  | (t5, r2, r3, r7) =>
    if (decide (t5 < 16)) = true then
      if (0 : Int) ≤ t5 ∧ t5 < (r7.length : Int) then
        if (0 : Int) ≤ (IntKind.i64.wrap (31 - (IntKind.i64.wrap (2 * t5)))) ∧ (IntKind.i64.wrap (31 - (IntKind.i64.wrap (2 * t5)))) < ((32 : Int) : Int) then
          let f2 : Nat → Int := (upd r3 (IntKind.i64.wrap (31 - (IntKind.i64.wrap (2 * t5)))).toNat (IntKind.u8.wrap ((r7.getD t5.toNat 0).tmod 256)))
          if (0 : Int) ≤ t5 ∧ t5 < (r7.length : Int) then
            let x3 : Int := (IntKind.u8.wrap (IntKind.u32.wrap ((r7.getD t5.toNat 0).tdiv 256)))
            if (0 : Int) ≤ (IntKind.i64.wrap (30 - (IntKind.i64.wrap (2 * t5)))) ∧ (IntKind.i64.wrap (30 - (IntKind.i64.wrap (2 * t5)))) < ((32 : Int) : Int) then
              let f4 : Nat → Int := (upd f2 (IntKind.i64.wrap (30 - (IntKind.i64.wrap (2 * t5)))).toNat x3)
              some (.inl ((IntKind.i64.wrap (t5 + 1)), r2, f4, r7))
            else none
          else none
        else none
      else none
    else
      some (.inr (r2, r3))

noncomputable def annw25_0 : Ann := .none
noncomputable def Fw25 : (Nat → Int) → Option ((Nat → Int))
  | a0 =>
    (Fw38 a0).bind fun y1 =>
      (loopO stepw25_0 (0, (fun _ => 0), (fun _ => 0), y1)).bind fun (z5, z6) =>
        some z6

noncomputable def annw25 : Ann := (.seq .none (.seq .none (.seq .none (.seq (.seq .none (.seq (.cut (cutEnt lw25_0 ow25_0 (loopO stepw25_0))) .none)) .none))))
abbrev Sw25 : FSh := ⟨[.val (.agg [.ints .u64 4])], [.val (.agg [.ints .u8 32])], [.cell 2 38]⟩
noncomputable def cw25 : Ctx Go.Proofs.Try.prog := ⟨wtab, ofL Ew24, wtabOk, Ew24_ok, wdep, word⟩
theorem eqw25_0 : ∀ s : lw25_0.T, exec wtab (ofL Ew24) 33 (Code.at' [1, 1, 1, 0, 1, 0, 0] bodyw25) annw25_0 (fun e st => loopEnd (l := lw25_0) (outs := ow25_0) e st) (lw25_0.enc s) = stepw25_0 s := by
  rintro ⟨t5, r2, r3, r7⟩
  kernel_rfl
theorem okw25_0 : LOk Go.Proofs.Try.prog 33 (cutEnt lw25_0 ow25_0 (loopO stepw25_0)) (Code.at' [1, 1, 1, 0, 1, 0] bodyw25) := by
  have e : Code.at' [1, 1, 1, 0, 1, 0] bodyw25 = .loop (Code.at' [1, 1, 1, 0, 1, 0, 0] bodyw25) := by kernel_rfl
  rw [e]
  refine loop_ok cw25 33 rfl rfl (annOk_of_cuts ?_) eqw25_0
  intro x hx
  exact absurd hx (by show x ∉ ([] : List (List Nat × LEnt)); simp)

theorem eqw25 : ∀ x : psT Sw25.ps, exec wtab (ofL Ew24) 33 bodyw25 annw25 (fin wtab Sw25) (argSt Sw25 x) = Fw25 x := by
  intro x
  kernel_rfl
theorem callsw25 : CallsAs Go.Proofs.Try.prog cw25 25 Sw25 Fw25 := by
  refine fun_calls (fn := Go.Proofs.Try.f25) (c := bodyw25) (ann := annw25) cw25 (by kernel_rfl) (by kernel_rfl) (by kernel_rfl) (by decide) (annOk_of_cuts ?_) eqw25
  have hc : Ann.cuts annw25 = [([1, 1, 1, 0, 1, 0], (cutEnt lw25_0 ow25_0 (loopO stepw25_0)))] := by kernel_rfl
  rw [hc]
  intro x hx
  simp only [List.mem_cons, List.not_mem_nil, or_false] at hx
  rcases hx with rfl
  · have e : Code.at' [1, 1, 1, 0, 1, 0] bodyw25 = Code.at' [1, 1, 1, 0, 1, 0] bodyw25 := by kernel_rfl
    rw [e]; exact okw25_0

theorem entw25 : EntOk Go.Proofs.Try.prog 25 (funEnt Sw25 Fw25) := fun_ok cw25 (fn := Go.Proofs.Try.f25) (c := bodyw25) (by kernel_rfl) (by kernel_rfl) (by kernel_rfl) rfl rfl (by decide) callsw25
noncomputable def Ew25 : List (Nat × Ent) := (25, funEnt Sw25 Fw25) :: Ew24
theorem Ew25_ok : EntsOk Go.Proofs.Try.prog (ofL Ew25) := .cons entw25 Ew24_ok

/-! ### cmp.isNaN[uint64] -/
noncomputable def bodyw48 : Code := (Go.Proofs.Try.f48.body).getD .skip
noncomputable def Fw48 : Int → Option (Bool)
  | a0 =>
    some (a0 != a0)

noncomputable def annw48 : Ann := .none
abbrev Sw48 : FSh := ⟨[.val (.c (.int .u64))], [.val (.c (.bool))], [.tmp 2]⟩
noncomputable def cw48 : Ctx Go.Proofs.Try.prog := ⟨wtab, ofL Ew25, wtabOk, Ew25_ok, wdep, word⟩
theorem eqw48 : ∀ x : psT Sw48.ps, exec wtab (ofL Ew25) 6 bodyw48 annw48 (fin wtab Sw48) (argSt Sw48 x) = Fw48 x := by
  intro x
  kernel_rfl
theorem callsw48 : CallsAs Go.Proofs.Try.prog cw48 48 Sw48 Fw48 := by
  refine fun_calls (fn := Go.Proofs.Try.f48) (c := bodyw48) (ann := annw48) cw48 (by kernel_rfl) (by kernel_rfl) (by kernel_rfl) (by decide) (annOk_of_cuts ?_) eqw48
  intro x hx
  exact absurd hx (by show x ∉ ([] : List (List Nat × LEnt)); simp)

theorem entw48 : EntOk Go.Proofs.Try.prog 48 (funEnt Sw48 Fw48) := fun_ok cw48 (fn := Go.Proofs.Try.f48) (c := bodyw48) (by kernel_rfl) (by kernel_rfl) (by kernel_rfl) rfl rfl (by decide) callsw48
noncomputable def Ew48 : List (Nat × Ent) := (48, funEnt Sw48 Fw48) :: Ew25
theorem Ew48_ok : EntsOk Go.Proofs.Try.prog (ofL Ew48) := .cons entw48 Ew25_ok

/-! ### cmp.Compare[uint64] -/
noncomputable def bodyw42 : Code := (Go.Proofs.Try.f42.body).getD .skip
noncomputable def Fw42 : Int × Int → Option (Int)
  | (a0, a1) =>
    (Fw48 a0).bind fun y1 =>
      (Fw48 a1).bind fun y2 =>
        if y1 = true then
          if y2 = true then
            some 0
          else
            some (-1)
        else
          if y2 = true then
            some 1
          else
            if (decide (a0 < a1)) = true then
              some (-1)
            else
              if (decide (a0 > a1)) = true then
                some 1
              else
                some 0

noncomputable def annw42 : Ann := .none
abbrev Sw42 : FSh := ⟨[.val (.c (.int .u64)), .val (.c (.int .u64))], [.val (.c (.int .i64))], [.tmp 4]⟩
noncomputable def cw42 : Ctx Go.Proofs.Try.prog := ⟨wtab, ofL Ew48, wtabOk, Ew48_ok, wdep, word⟩
theorem eqw42 : ∀ x : psT Sw42.ps, exec wtab (ofL Ew48) 20 bodyw42 annw42 (fin wtab Sw42) (argSt Sw42 x) = Fw42 x := by
  rintro ⟨a0, a1⟩
  kernel_rfl
theorem callsw42 : CallsAs Go.Proofs.Try.prog cw42 42 Sw42 Fw42 := by
  refine fun_calls (fn := Go.Proofs.Try.f42) (c := bodyw42) (ann := annw42) cw42 (by kernel_rfl) (by kernel_rfl) (by kernel_rfl) (by decide) (annOk_of_cuts ?_) eqw42
  intro x hx
  exact absurd hx (by show x ∉ ([] : List (List Nat × LEnt)); simp)

theorem entw42 : EntOk Go.Proofs.Try.prog 42 (funEnt Sw42 Fw42) := fun_ok cw42 (fn := Go.Proofs.Try.f42) (c := bodyw42) (by kernel_rfl) (by kernel_rfl) (by kernel_rfl) rfl rfl (by decide) callsw42
noncomputable def Ew42 : List (Nat × Ent) := (42, funEnt Sw42 Fw42) :: Ew48
theorem Ew42_ok : EntsOk Go.Proofs.Try.prog (ofL Ew42) := .cons entw42 Ew48_ok

/-! ### barbican/wide.Cmp -/
noncomputable def bodyw26 : Code := (Go.Proofs.Try.f26.body).getD .skip
abbrev lw26_0 : Lay := ⟨[(2, .ptr 2 0 4), (3, .ptr 3 0 4)], [.env 5 (.c (.int .i64)), .reg 2 (.cells [.ints .u64 4]), .reg 3 (.cells [.ints .u64 4])], [(2, 2), (3, 3)]⟩
abbrev ow26_0 : List (AExit × Lay) := [(.ret, ⟨[], [.env 4 (.c (.int .i64))], []⟩), (.exit 0, ⟨[(2, .ptr 2 0 4), (3, .ptr 3 0 4)], [.reg 2 (.cells [.ints .u64 4]), .reg 3 (.cells [.ints .u64 4])], [(2, 2), (3, 3)]⟩)]
noncomputable def stepw26_0 : Int × (Nat → Int) × (Nat → Int) → Option ((Int × (Nat → Int) × (Nat → Int)) ⊕ ((Int) ⊕ ((Nat → Int) × (Nat → Int))))
  | (t5, r2, r3) =>
    if (decide (t5 > 0)) = true then
      if (0 : Int) ≤ t5 ∧ t5 < ((4 : Int) : Int) then
        if (0 : Int) ≤ t5 ∧ t5 < ((4 : Int) : Int) then
          if ((r2 t5.toNat) != (r3 t5.toNat)) = true then
            if (0 : Int) ≤ t5 ∧ t5 < ((4 : Int) : Int) then
              if (0 : Int) ≤ t5 ∧ t5 < ((4 : Int) : Int) then
                (Fw42 ((r2 t5.toNat), (r3 t5.toNat))).bind fun y1 =>
                  some (.inr (.inl y1))
              else none
            else none
          else
            some (.inl ((IntKind.i64.wrap (t5 - 1)), r2, r3))
        else none
      else none
    else
      some (.inr (.inr (r2, r3)))

noncomputable def annw26_0 : Ann := .none
noncomputable def Fw26 : (Nat → Int) × (Nat → Int) → Option (Int)
  | (a0, a1) =>
    (loopO stepw26_0 (3, a0, a1)).bind fun
      | (.inl z3) =>
        some z3
      | (.inr (z4, z5)) =>
        (Fw42 ((z4 0), (z5 0))).bind fun y6 =>
          some y6

noncomputable def annw26 : Ann := (.seq .none (.seq (.seq .none (.seq (.cut (cutEnt lw26_0 ow26_0 (loopO stepw26_0))) .none)) .none))
abbrev Sw26 : FSh := ⟨[.val (.agg [.ints .u64 4]), .val (.agg [.ints .u64 4])], [.val (.c (.int .i64))], [.tmp 4]⟩
noncomputable def cw26 : Ctx Go.Proofs.Try.prog := ⟨wtab, ofL Ew42, wtabOk, Ew42_ok, wdep, word⟩
theorem eqw26_0 : ∀ s : lw26_0.T, exec wtab (ofL Ew42) 29 (Code.at' [1, 0, 1, 0, 0] bodyw26) annw26_0 (fun e st => loopEnd (l := lw26_0) (outs := ow26_0) e st) (lw26_0.enc s) = stepw26_0 s := by
  rintro ⟨t5, r2, r3⟩
  kernel_rfl
theorem okw26_0 : LOk Go.Proofs.Try.prog 29 (cutEnt lw26_0 ow26_0 (loopO stepw26_0)) (Code.at' [1, 0, 1, 0] bodyw26) := by
  have e : Code.at' [1, 0, 1, 0] bodyw26 = .loop (Code.at' [1, 0, 1, 0, 0] bodyw26) := by kernel_rfl
  rw [e]
  refine loop_ok cw26 29 rfl rfl (annOk_of_cuts ?_) eqw26_0
  intro x hx
  exact absurd hx (by show x ∉ ([] : List (List Nat × LEnt)); simp)

theorem eqw26 : ∀ x : psT Sw26.ps, exec wtab (ofL Ew42) 29 bodyw26 annw26 (fin wtab Sw26) (argSt Sw26 x) = Fw26 x := by
  rintro ⟨a0, a1⟩
  kernel_rfl
theorem callsw26 : CallsAs Go.Proofs.Try.prog cw26 26 Sw26 Fw26 := by
  refine fun_calls (fn := Go.Proofs.Try.f26) (c := bodyw26) (ann := annw26) cw26 (by kernel_rfl) (by kernel_rfl) (by kernel_rfl) (by decide) (annOk_of_cuts ?_) eqw26
  have hc : Ann.cuts annw26 = [([1, 0, 1, 0], (cutEnt lw26_0 ow26_0 (loopO stepw26_0)))] := by kernel_rfl
  rw [hc]
  intro x hx
  simp only [List.mem_cons, List.not_mem_nil, or_false] at hx
  rcases hx with rfl
  · have e : Code.at' [1, 0, 1, 0] bodyw26 = Code.at' [1, 0, 1, 0] bodyw26 := by kernel_rfl
    rw [e]; exact okw26_0

theorem entw26 : EntOk Go.Proofs.Try.prog 26 (funEnt Sw26 Fw26) := fun_ok cw26 (fn := Go.Proofs.Try.f26) (c := bodyw26) (by kernel_rfl) (by kernel_rfl) (by kernel_rfl) rfl rfl (by decide) callsw26
noncomputable def Ew26 : List (Nat × Ent) := (26, funEnt Sw26 Fw26) :: Ew42
theorem Ew26_ok : EntsOk Go.Proofs.Try.prog (ofL Ew26) := .cons entw26 Ew42_ok

/-! ### barbican/barbicanref04.Cmp -/
noncomputable def bodyw27 : Code := (Go.Proofs.Try.f27.body).getD .skip
abbrev lw27_0 : Lay := ⟨[(2, .ptr 2 0 4), (3, .ptr 3 0 4)], [.env 5 (.c (.int .i64)), .reg 2 (.cells [.ints .u64 4]), .reg 3 (.cells [.ints .u64 4])], [(2, 2), (3, 3)]⟩
abbrev ow27_0 : List (AExit × Lay) := [(.ret, ⟨[], [.env 4 (.c (.int .i64))], []⟩), (.exit 0, ⟨[], [], []⟩)]
noncomputable def stepw27_0 : Int × (Nat → Int) × (Nat → Int) → Option ((Int × (Nat → Int) × (Nat → Int)) ⊕ ((Int) ⊕ (Unit)))
  | (t5, r2, r3) =>
    if (decide (t5 ≥ 0)) = true then
      if (0 : Int) ≤ t5 ∧ t5 < ((4 : Int) : Int) then
        if (0 : Int) ≤ t5 ∧ t5 < ((4 : Int) : Int) then
          if (decide ((r2 t5.toNat) < (r3 t5.toNat))) = true then
            some (.inr (.inl (-1)))
          else
            if (0 : Int) ≤ t5 ∧ t5 < ((4 : Int) : Int) then
              if (0 : Int) ≤ t5 ∧ t5 < ((4 : Int) : Int) then
                if (decide ((r2 t5.toNat) > (r3 t5.toNat))) = true then
                  some (.inr (.inl 1))
                else
                  some (.inl ((IntKind.i64.wrap (t5 - 1)), r2, r3))
              else none
            else none
        else none
      else none
    else
      some (.inr (.inr ()))

noncomputable def annw27_0 : Ann := .none
noncomputable def Fw27 : (Nat → Int) × (Nat → Int) → Option (Int)
  | (a0, a1) =>
    (loopO stepw27_0 (3, a0, a1)).bind fun
      | (.inl z2) =>
        some z2
      | (.inr _) =>
        some 0

noncomputable def annw27 : Ann := (.seq .none (.seq (.seq .none (.seq (.cut (cutEnt lw27_0 ow27_0 (loopO stepw27_0))) .none)) .none))
abbrev Sw27 : FSh := ⟨[.val (.agg [.ints .u64 4]), .val (.agg [.ints .u64 4])], [.val (.c (.int .i64))], [.tmp 4]⟩
noncomputable def cw27 : Ctx Go.Proofs.Try.prog := ⟨wtab, ofL Ew26, wtabOk, Ew26_ok, wdep, word⟩
theorem eqw27_0 : ∀ s : lw27_0.T, exec wtab (ofL Ew26) 24 (Code.at' [1, 0, 1, 0, 0] bodyw27) annw27_0 (fun e st => loopEnd (l := lw27_0) (outs := ow27_0) e st) (lw27_0.enc s) = stepw27_0 s := by
  rintro ⟨t5, r2, r3⟩
  kernel_rfl
theorem okw27_0 : LOk Go.Proofs.Try.prog 24 (cutEnt lw27_0 ow27_0 (loopO stepw27_0)) (Code.at' [1, 0, 1, 0] bodyw27) := by
  have e : Code.at' [1, 0, 1, 0] bodyw27 = .loop (Code.at' [1, 0, 1, 0, 0] bodyw27) := by kernel_rfl
  rw [e]
  refine loop_ok cw27 24 rfl rfl (annOk_of_cuts ?_) eqw27_0
  intro x hx
  exact absurd hx (by show x ∉ ([] : List (List Nat × LEnt)); simp)

theorem eqw27 : ∀ x : psT Sw27.ps, exec wtab (ofL Ew26) 24 bodyw27 annw27 (fin wtab Sw27) (argSt Sw27 x) = Fw27 x := by
  rintro ⟨a0, a1⟩
  kernel_rfl
theorem callsw27 : CallsAs Go.Proofs.Try.prog cw27 27 Sw27 Fw27 := by
  refine fun_calls (fn := Go.Proofs.Try.f27) (c := bodyw27) (ann := annw27) cw27 (by kernel_rfl) (by kernel_rfl) (by kernel_rfl) (by decide) (annOk_of_cuts ?_) eqw27
  have hc : Ann.cuts annw27 = [([1, 0, 1, 0], (cutEnt lw27_0 ow27_0 (loopO stepw27_0)))] := by kernel_rfl
  rw [hc]
  intro x hx
  simp only [List.mem_cons, List.not_mem_nil, or_false] at hx
  rcases hx with rfl
  · have e : Code.at' [1, 0, 1, 0] bodyw27 = Code.at' [1, 0, 1, 0] bodyw27 := by kernel_rfl
    rw [e]; exact okw27_0

theorem entw27 : EntOk Go.Proofs.Try.prog 27 (funEnt Sw27 Fw27) := fun_ok cw27 (fn := Go.Proofs.Try.f27) (c := bodyw27) (by kernel_rfl) (by kernel_rfl) (by kernel_rfl) rfl rfl (by decide) callsw27
noncomputable def Ew27 : List (Nat × Ent) := (27, funEnt Sw27 Fw27) :: Ew26
theorem Ew27_ok : EntsOk Go.Proofs.Try.prog (ofL Ew27) := .cons entw27 Ew26_ok

/-! ### barbican/barbicanlaw04.WideBytes -/
noncomputable def bodyw5 : Code := (Go.Proofs.Try.f5.body).getD .skip
abbrev lw5_0 : Lay := ⟨[(4, .ptr 4 0 4), (5, .ptr 5 0 4), (10, .ptr 10 0 32), (11, .ptr 11 0 32), (12, .ptr 12 0 4)], [.env 7 (.c (.bool)), .env 13 (.c (.int .i64)), .env 14 (.c (.int .i64)), .env 15 (.c (.int .i64)), .reg 4 (.cells [.ints .u64 4]), .reg 5 (.cells [.ints .u64 4]), .reg 10 (.cells [.ints .u8 32]), .reg 11 (.cells [.ints .u8 32]), .reg 12 (.cells [.ints .u64 4])], [(4, 4), (5, 5), (10, 10), (11, 11), (12, 12)]⟩
abbrev ow5_0 : List (AExit × Lay) := [(.exit 0, ⟨[(4, .ptr 4 0 4), (5, .ptr 5 0 4), (10, .ptr 10 0 32), (12, .ptr 12 0 4)], [.env 7 (.c (.bool)), .env 13 (.c (.int .i64)), .env 14 (.c (.int .i64)), .reg 4 (.cells [.ints .u64 4]), .reg 5 (.cells [.ints .u64 4]), .reg 10 (.cells [.ints .u8 32]), .reg 12 (.cells [.ints .u64 4])], [(4, 4), (5, 5), (10, 10), (12, 12)]⟩)]
noncomputable def stepw5_0 : Bool × Int × Int × Int × (Nat → Int) × (Nat → Int) × (Nat → Int) × (Nat → Int) × (Nat → Int) → Option ((Bool × Int × Int × Int × (Nat → Int) × (Nat → Int) × (Nat → Int) × (Nat → Int) × (Nat → Int)) ⊕ ((Bool × Int × Int × (Nat → Int) × (Nat → Int) × (Nat → Int) × (Nat → Int))))
  | (t7, t13, t14, t15, r4, r5, r10, r11, r12) =>
    if (decide (t15 ≥ 0)) = true then
      if (0 : Int) ≤ t15 ∧ t15 < ((32 : Int) : Int) then
        if (0 : Int) ≤ t15 ∧ t15 < ((32 : Int) : Int) then
          if (decide ((r10 t15.toNat) < (r11 t15.toNat))) = true then
            if (0 : Int) ≤ t15 ∧ t15 < ((32 : Int) : Int) then
              if (0 : Int) ≤ t15 ∧ t15 < ((32 : Int) : Int) then
                if (decide ((r10 t15.toNat) > (r11 t15.toNat))) = true then
                  some (.inl (t7, t13, 1, (IntKind.i64.wrap (t15 - 1)), r4, r5, r10, r11, r12))
                else
                  some (.inl (t7, t13, (-1), (IntKind.i64.wrap (t15 - 1)), r4, r5, r10, r11, r12))
              else none
            else none
          else
            if (0 : Int) ≤ t15 ∧ t15 < ((32 : Int) : Int) then
              if (0 : Int) ≤ t15 ∧ t15 < ((32 : Int) : Int) then
                if (decide ((r10 t15.toNat) > (r11 t15.toNat))) = true then
                  some (.inl (t7, t13, 1, (IntKind.i64.wrap (t15 - 1)), r4, r5, r10, r11, r12))
                else
                  some (.inl (t7, t13, t14, (IntKind.i64.wrap (t15 - 1)), r4, r5, r10, r11, r12))
              else none
            else none
        else none
      else none
    else
      some (.inr (t7, t13, t14, r4, r5, r10, r12))

noncomputable def annw5_0 : Ann := .none
noncomputable def Fw5 : List Int × (Nat → Int) × (Nat → Int) → Option (Bool)
  | (a0, a1, a2) =>
    (Fw9 ()).bind fun y1 =>
      (Fw22 a0).bind fun (y2, y3) =>
        if ((a0.length : Int) != 32) = true then
          if (y3 != 41) = false then
            if (!(arrEq 4 y2 (fun _ => 0))) = true then
              some false
            else
              if ((a0.length : Int) == 32) = true then
                if (y3 != 0) = false then
                  (Fw23 a0).bind fun y4 =>
                    if (!(arrEq 4 y2 y4)) = true then
                      some false
                    else
                      (Fw24 a1).bind fun y5 =>
                        (Fw24 a2).bind fun y6 =>
                          (Fw22 ((List.range 32).map (fun j => y5 (0 + j)))).bind fun (y7, y8) =>
                            (loopO stepw5_0 (y1, y8, 0, 31, a1, a2, y5, y6, y7)).bind fun (z9, z10, z11, z12, z13, z14, z15) =>
                              if z9 = true then
                                (Fw25 z12).bind fun y16 =>
                                  if (arrEq 32 z14 y16) = true then
                                    if (arrEq 4 z15 z12) = true then
                                      if (z10 == 0) = true then
                                        (Fw26 (z12, z13)).bind fun y17 =>
                                          if (y17 == z11) = true then
                                            (Fw27 (z12, z13)).bind fun y18 =>
                                              some (z11 == y18)
                                          else
                                            some false
                                      else
                                        some false
                                    else
                                      some false
                                  else
                                    some false
                              else
                                some false
                else
                  some false
              else
                (Fw24 a1).bind fun y19 =>
                  (Fw24 a2).bind fun y20 =>
                    (Fw22 ((List.range 32).map (fun j => y19 (0 + j)))).bind fun (y21, y22) =>
                      (loopO stepw5_0 (y1, y22, 0, 31, a1, a2, y19, y20, y21)).bind fun (z23, z24, z25, z26, z27, z28, z29) =>
                        if z23 = true then
                          (Fw25 z26).bind fun y30 =>
                            if (arrEq 32 z28 y30) = true then
                              if (arrEq 4 z29 z26) = true then
                                if (z24 == 0) = true then
                                  (Fw26 (z26, z27)).bind fun y31 =>
                                    if (y31 == z25) = true then
                                      (Fw27 (z26, z27)).bind fun y32 =>
                                        some (z25 == y32)
                                    else
                                      some false
                                else
                                  some false
                              else
                                some false
                            else
                              some false
                        else
                          some false
          else
            some false
        else
          if ((a0.length : Int) == 32) = true then
            if (y3 != 0) = false then
              (Fw23 a0).bind fun y33 =>
                if (!(arrEq 4 y2 y33)) = true then
                  some false
                else
                  (Fw24 a1).bind fun y34 =>
                    (Fw24 a2).bind fun y35 =>
                      (Fw22 ((List.range 32).map (fun j => y34 (0 + j)))).bind fun (y36, y37) =>
                        (loopO stepw5_0 (y1, y37, 0, 31, a1, a2, y34, y35, y36)).bind fun (z38, z39, z40, z41, z42, z43, z44) =>
                          if z38 = true then
                            (Fw25 z41).bind fun y45 =>
                              if (arrEq 32 z43 y45) = true then
                                if (arrEq 4 z44 z41) = true then
                                  if (z39 == 0) = true then
                                    (Fw26 (z41, z42)).bind fun y46 =>
                                      if (y46 == z40) = true then
                                        (Fw27 (z41, z42)).bind fun y47 =>
                                          some (z40 == y47)
                                      else
                                        some false
                                  else
                                    some false
                                else
                                  some false
                              else
                                some false
                          else
                            some false
            else
              some false
          else
            (Fw24 a1).bind fun y48 =>
              (Fw24 a2).bind fun y49 =>
                (Fw22 ((List.range 32).map (fun j => y48 (0 + j)))).bind fun (y50, y51) =>
                  (loopO stepw5_0 (y1, y51, 0, 31, a1, a2, y48, y49, y50)).bind fun (z52, z53, z54, z55, z56, z57, z58) =>
                    if z52 = true then
                      (Fw25 z55).bind fun y59 =>
                        if (arrEq 32 z57 y59) = true then
                          if (arrEq 4 z58 z55) = true then
                            if (z53 == 0) = true then
                              (Fw26 (z55, z56)).bind fun y60 =>
                                if (y60 == z54) = true then
                                  (Fw27 (z55, z56)).bind fun y61 =>
                                    some (z54 == y61)
                                else
                                  some false
                            else
                              some false
                          else
                            some false
                        else
                          some false
                    else
                      some false

noncomputable def annw5 : Ann := (.seq .none (.seq .none (.seq .none (.seq .none (.seq .none (.seq .none (.seq .none (.seq .none (.seq .none (.seq (.seq .none (.seq (.cut (cutEnt lw5_0 ow5_0 (loopO stepw5_0))) .none)) .none))))))))))
abbrev Sw5 : FSh := ⟨[.ints .u8, .val (.agg [.ints .u64 4]), .val (.agg [.ints .u64 4])], [.val (.c (.bool))], [.tmp 6]⟩
noncomputable def cw5 : Ctx Go.Proofs.Try.prog := ⟨wtab, ofL Ew27, wtabOk, Ew27_ok, wdep, word⟩
theorem eqw5_0 : ∀ s : lw5_0.T, exec wtab (ofL Ew27) 104 (Code.at' [1, 1, 1, 1, 1, 1, 1, 1, 1, 0, 1, 0, 0] bodyw5) annw5_0 (fun e st => loopEnd (l := lw5_0) (outs := ow5_0) e st) (lw5_0.enc s) = stepw5_0 s := by
  rintro ⟨t7, t13, t14, t15, r4, r5, r10, r11, r12⟩
  kernel_rfl
theorem okw5_0 : LOk Go.Proofs.Try.prog 104 (cutEnt lw5_0 ow5_0 (loopO stepw5_0)) (Code.at' [1, 1, 1, 1, 1, 1, 1, 1, 1, 0, 1, 0] bodyw5) := by
  have e : Code.at' [1, 1, 1, 1, 1, 1, 1, 1, 1, 0, 1, 0] bodyw5 = .loop (Code.at' [1, 1, 1, 1, 1, 1, 1, 1, 1, 0, 1, 0, 0] bodyw5) := by kernel_rfl
  rw [e]
  refine loop_ok cw5 104 rfl rfl (annOk_of_cuts ?_) eqw5_0
  intro x hx
  exact absurd hx (by show x ∉ ([] : List (List Nat × LEnt)); simp)

theorem eqw5 : ∀ x : psT Sw5.ps, exec wtab (ofL Ew27) 104 bodyw5 annw5 (fin wtab Sw5) (argSt Sw5 x) = Fw5 x := by
  rintro ⟨a0, a1, a2⟩
  kernel_rfl
theorem callsw5 : CallsAs Go.Proofs.Try.prog cw5 5 Sw5 Fw5 := by
  refine fun_calls (fn := Go.Proofs.Try.f5) (c := bodyw5) (ann := annw5) cw5 (by kernel_rfl) (by kernel_rfl) (by kernel_rfl) (by decide) (annOk_of_cuts ?_) eqw5
  have hc : Ann.cuts annw5 = [([1, 1, 1, 1, 1, 1, 1, 1, 1, 0, 1, 0], (cutEnt lw5_0 ow5_0 (loopO stepw5_0)))] := by kernel_rfl
  rw [hc]
  intro x hx
  simp only [List.mem_cons, List.not_mem_nil, or_false] at hx
  rcases hx with rfl
  · have e : Code.at' [1, 1, 1, 1, 1, 1, 1, 1, 1, 0, 1, 0] bodyw5 = Code.at' [1, 1, 1, 1, 1, 1, 1, 1, 1, 0, 1, 0] bodyw5 := by kernel_rfl
    rw [e]; exact okw5_0

theorem entw5 : EntOk Go.Proofs.Try.prog 5 (funEnt Sw5 Fw5) := fun_ok cw5 (fn := Go.Proofs.Try.f5) (c := bodyw5) (by kernel_rfl) (by kernel_rfl) (by kernel_rfl) rfl rfl (by decide) callsw5
noncomputable def Ew5 : List (Nat × Ent) := (5, funEnt Sw5 Fw5) :: Ew27
theorem Ew5_ok : EntsOk Go.Proofs.Try.prog (ofL Ew5) := .cons entw5 Ew27_ok

/-! ### barbican/wide.step -/
noncomputable def bodyw43 : Code := (Go.Proofs.Try.f43.body).getD .skip
noncomputable def Fw43 : (Nat → Int) × Int × (Nat → Int) → Option ((Nat → Int) × Bool)
  | (a0, a1, a2) =>
    (Fw18 (a0, 1)).bind fun y1 =>
      if (!((shrI .u64 (a0 3) 63) == 1)) = true then
        (Fw26 ((upd y1 0 (bitsOr .u64 (y1 0) (IntKind.u64.wrap a1))), a2)).bind fun y2 =>
          if (decide (y2 < 0)) = true then
            some ((upd y1 0 (bitsOr .u64 (y1 0) (IntKind.u64.wrap a1))), false)
          else
            (Fw11 ((upd y1 0 (bitsOr .u64 (y1 0) (IntKind.u64.wrap a1))), a2)).bind fun (y3, y4) =>
              some (y3, true)
      else
        (Fw11 ((upd y1 0 (bitsOr .u64 (y1 0) (IntKind.u64.wrap a1))), a2)).bind fun (y5, y6) =>
          some (y5, true)

noncomputable def annw43 : Ann := .none
abbrev Sw43 : FSh := ⟨[.val (.agg [.ints .u64 4]), .val (.c (.int .i64)), .val (.agg [.ints .u64 4])], [.val (.agg [.ints .u64 4]), .val (.c (.bool))], [.cell 6 24, .tmp 7]⟩
noncomputable def cw43 : Ctx Go.Proofs.Try.prog := ⟨wtab, ofL Ew5, wtabOk, Ew5_ok, wdep, word⟩
theorem eqw43 : ∀ x : psT Sw43.ps, exec wtab (ofL Ew5) 37 bodyw43 annw43 (fin wtab Sw43) (argSt Sw43 x) = Fw43 x := by
  rintro ⟨a0, a1, a2⟩
  kernel_rfl
theorem callsw43 : CallsAs Go.Proofs.Try.prog cw43 43 Sw43 Fw43 := by
  refine fun_calls (fn := Go.Proofs.Try.f43) (c := bodyw43) (ann := annw43) cw43 (by kernel_rfl) (by kernel_rfl) (by kernel_rfl) (by decide) (annOk_of_cuts ?_) eqw43
  intro x hx
  exact absurd hx (by show x ∉ ([] : List (List Nat × LEnt)); simp)

theorem entw43 : EntOk Go.Proofs.Try.prog 43 (funEnt Sw43 Fw43) := fun_ok cw43 (fn := Go.Proofs.Try.f43) (c := bodyw43) (by kernel_rfl) (by kernel_rfl) (by kernel_rfl) rfl rfl (by decide) callsw43
noncomputable def Ew43 : List (Nat × Ent) := (43, funEnt Sw43 Fw43) :: Ew5
theorem Ew43_ok : EntsOk Go.Proofs.Try.prog (ofL Ew43) := .cons entw43 Ew5_ok

/-! ### barbican/wide.Reduce -/
noncomputable def bodyw28 : Code := (Go.Proofs.Try.f28.body).getD .skip
abbrev lw28_1 : Lay := ⟨[(3, .ptr 3 0 4), (4, .ptr 4 0 4), (6, .ptr 6 0 4)], [.env 8 (.c (.int .u8)), .env 9 (.c (.int .i64)), .env 14 (.c (.fz (.int .u8))), .env 15 (.c (.int .i64)), .env 16 (.c (.int .i64)), .reg 3 (.cells [.ints .u64 4]), .reg 4 (.cells [.ints .u64 4]), .reg 6 (.cells [.ints .u64 4])], [(3, 3), (4, 4), (6, 6)]⟩
abbrev ow28_1 : List (AExit × Lay) := [(.exit 2, ⟨[(3, .ptr 3 0 4), (4, .ptr 4 0 4), (6, .ptr 6 0 4)], [.env 14 (.c (.fz (.int .u8))), .env 15 (.c (.int .i64)), .env 16 (.c (.int .i64)), .reg 3 (.cells [.ints .u64 4]), .reg 4 (.cells [.ints .u64 4]), .reg 6 (.cells [.ints .u64 4])], [(3, 3), (4, 4), (6, 6)]⟩)]
noncomputable def stepw28_1 : Int × Int × (List Int) × Int × Int × (Nat → Int) × (Nat → Int) × (Nat → Int) → Option ((Int × Int × (List Int) × Int × Int × (Nat → Int) × (Nat → Int) × (Nat → Int)) ⊕ (((List Int) × Int × Int × (Nat → Int) × (Nat → Int) × (Nat → Int))))
  | (t8, t9, t14, t15, t16, r3, r4, r6) =>
    if (decide (t9 ≥ 0)) = true then
      if 0 ≤ t9 then
        (Fw43 (r6, (IntKind.i64.wrap (bitsAnd .u8 (shrI .u8 t8 t9) 1)), r3)).bind fun (y1, y2) =>
          some (.inl (t8, (IntKind.i64.wrap (t9 - 1)), t14, t15, t16, r3, r4, y1))
      else none
    else
      some (.inr (t14, t15, t16, r3, r4, r6))

noncomputable def annw28_1 : Ann := .none
abbrev lw28_0 : Lay := ⟨[(3, .ptr 3 0 4), (4, .ptr 4 0 4), (6, .ptr 6 0 4)], [.env 14 (.c (.fz (.int .u8))), .env 15 (.c (.int .i64)), .env 16 (.c (.int .i64)), .reg 3 (.cells [.ints .u64 4]), .reg 4 (.cells [.ints .u64 4]), .reg 6 (.cells [.ints .u64 4])], [(3, 3), (4, 4), (6, 6)]⟩
abbrev ow28_0 : List (AExit × Lay) := [(.exit 0, ⟨[(4, .ptr 4 0 4), (6, .ptr 6 0 4)], [.reg 4 (.cells [.ints .u64 4]), .reg 6 (.cells [.ints .u64 4])], [(4, 4), (6, 6)]⟩)]
noncomputable def stepw28_0 : (List Int) × Int × Int × (Nat → Int) × (Nat → Int) × (Nat → Int) → Option (((List Int) × Int × Int × (Nat → Int) × (Nat → Int) × (Nat → Int)) ⊕ (((Nat → Int) × (Nat → Int))))
  | (t14, t15, t16, r3, r4, r6) =>
    if (decide (t16 < t15)) = true then
      if (0 : Int) ≤ t16 ∧ t16 < (t14.length : Int) then
        (loopO stepw28_1 ((t14.getD t16.toNat 0), 7, t14, t15, t16, r3, r4, r6)).bind fun (z3, z4, z5, z6, z7, z8) =>
          some (.inl (z3, z4, (IntKind.i64.wrap (z5 + 1)), z6, z7, z8))
      else none
    else
      some (.inr (r4, r6))

noncomputable def annw28_0 : Ann := (.seq .none (.seq .none (.seq (.seq (.seq .none (.seq .none (.seq (.cut (cutEnt lw28_1 ow28_1 (loopO stepw28_1))) .none))) .none) .none)))
noncomputable def Fw28 : List Int × (Nat → Int) → Option ((Nat → Int) × Int)
  | (a0, a1) =>
    if (arrEq 4 a1 (fun _ => 0)) = true then
      some ((fun _ => 0), 42)
    else
      (loopO stepw28_0 (a0, (a0.length : Int), 0, a1, (fun _ => 0), (fun _ => 0))).bind fun (z9, z10) =>
        some (z10, 0)

noncomputable def annw28 : Ann := (.seq .none (.seq .none (.seq .none (.seq (.seq .none (.seq (.cut (cutEnt lw28_0 ow28_0 (loopO stepw28_0))) .none)) .none))))
abbrev Sw28 : FSh := ⟨[.ints .u8, .val (.agg [.ints .u64 4])], [.val (.agg [.ints .u64 4]), .val (.c (.int .i64))], [.cell 4 24, .tmp 5]⟩
noncomputable def cw28 : Ctx Go.Proofs.Try.prog := ⟨wtab, ofL Ew43, wtabOk, Ew43_ok, wdep, word⟩
theorem eqw28_1 : ∀ s : lw28_1.T, exec wtab (ofL Ew43) 37 (Code.at' [1, 1, 1, 0, 1, 0, 0, 1, 1, 0, 0, 1, 1, 0, 0] bodyw28) annw28_1 (fun e st => loopEnd (l := lw28_1) (outs := ow28_1) e st) (lw28_1.enc s) = stepw28_1 s := by
  rintro ⟨t8, t9, t14, t15, t16, r3, r4, r6⟩
  kernel_rfl
theorem okw28_1 : LOk Go.Proofs.Try.prog 37 (cutEnt lw28_1 ow28_1 (loopO stepw28_1)) (Code.at' [1, 1, 1, 0, 1, 0, 0, 1, 1, 0, 0, 1, 1, 0] bodyw28) := by
  have e : Code.at' [1, 1, 1, 0, 1, 0, 0, 1, 1, 0, 0, 1, 1, 0] bodyw28 = .loop (Code.at' [1, 1, 1, 0, 1, 0, 0, 1, 1, 0, 0, 1, 1, 0, 0] bodyw28) := by kernel_rfl
  rw [e]
  refine loop_ok cw28 37 rfl rfl (annOk_of_cuts ?_) eqw28_1
  intro x hx
  exact absurd hx (by show x ∉ ([] : List (List Nat × LEnt)); simp)

theorem eqw28_0 : ∀ s : lw28_0.T, exec wtab (ofL Ew43) 37 (Code.at' [1, 1, 1, 0, 1, 0, 0] bodyw28) annw28_0 (fun e st => loopEnd (l := lw28_0) (outs := ow28_0) e st) (lw28_0.enc s) = stepw28_0 s := by
  rintro ⟨t14, t15, t16, r3, r4, r6⟩
  kernel_rfl
theorem okw28_0 : LOk Go.Proofs.Try.prog 37 (cutEnt lw28_0 ow28_0 (loopO stepw28_0)) (Code.at' [1, 1, 1, 0, 1, 0] bodyw28) := by
  have e : Code.at' [1, 1, 1, 0, 1, 0] bodyw28 = .loop (Code.at' [1, 1, 1, 0, 1, 0, 0] bodyw28) := by kernel_rfl
  rw [e]
  refine loop_ok cw28 37 rfl rfl (annOk_of_cuts ?_) eqw28_0
  have hc : Ann.cuts annw28_0 = [([1, 1, 0, 0, 1, 1, 0], (cutEnt lw28_1 ow28_1 (loopO stepw28_1)))] := by kernel_rfl
  rw [hc]
  intro x hx
  simp only [List.mem_cons, List.not_mem_nil, or_false] at hx
  rcases hx with rfl
  · have e : Code.at' [1, 1, 0, 0, 1, 1, 0] (Code.at' [1, 1, 1, 0, 1, 0, 0] bodyw28) = Code.at' [1, 1, 1, 0, 1, 0, 0, 1, 1, 0, 0, 1, 1, 0] bodyw28 := by kernel_rfl
    rw [e]; exact okw28_1

theorem eqw28 : ∀ x : psT Sw28.ps, exec wtab (ofL Ew43) 37 bodyw28 annw28 (fin wtab Sw28) (argSt Sw28 x) = Fw28 x := by
  rintro ⟨a0, a1⟩
  kernel_rfl
theorem callsw28 : CallsAs Go.Proofs.Try.prog cw28 28 Sw28 Fw28 := by
  refine fun_calls (fn := Go.Proofs.Try.f28) (c := bodyw28) (ann := annw28) cw28 (by kernel_rfl) (by kernel_rfl) (by kernel_rfl) (by decide) (annOk_of_cuts ?_) eqw28
  have hc : Ann.cuts annw28 = [([1, 1, 1, 0, 1, 0], (cutEnt lw28_0 ow28_0 (loopO stepw28_0)))] := by kernel_rfl
  rw [hc]
  intro x hx
  simp only [List.mem_cons, List.not_mem_nil, or_false] at hx
  rcases hx with rfl
  · have e : Code.at' [1, 1, 1, 0, 1, 0] bodyw28 = Code.at' [1, 1, 1, 0, 1, 0] bodyw28 := by kernel_rfl
    rw [e]; exact okw28_0

theorem entw28 : EntOk Go.Proofs.Try.prog 28 (funEnt Sw28 Fw28) := fun_ok cw28 (fn := Go.Proofs.Try.f28) (c := bodyw28) (by kernel_rfl) (by kernel_rfl) (by kernel_rfl) rfl rfl (by decide) callsw28
noncomputable def Ew28 : List (Nat × Ent) := (28, funEnt Sw28 Fw28) :: Ew43
theorem Ew28_ok : EntsOk Go.Proofs.Try.prog (ofL Ew28) := .cons entw28 Ew43_ok

/-! ### barbican/barbicanref04.twice -/
noncomputable def bodyw44 : Code := (Go.Proofs.Try.f44.body).getD .skip
noncomputable def Fw44 : (Nat → Int) × Int × (Nat → Int) → Option ((Nat → Int) × Bool)
  | (a0, a1, a2) =>
    (Fw12 (a0, a0)).bind fun (y1, y2) =>
      let f3 : Nat → Int := (upd y1 0 (IntKind.u64.wrap ((y1 0) + (IntKind.u64.wrap a1))))
      if (y2 == 0) = true then
        (Fw27 (f3, a2)).bind fun y4 =>
          if (decide (y4 < 0)) = true then
            some (f3, false)
          else
            (Fw13 (f3, a2)).bind fun (y5, y6) =>
              some (y5, true)
      else
        (Fw13 (f3, a2)).bind fun (y7, y8) =>
          some (y7, true)

noncomputable def annw44 : Ann := .none
abbrev Sw44 : FSh := ⟨[.val (.agg [.ints .u64 4]), .val (.c (.int .i64)), .val (.agg [.ints .u64 4])], [.val (.agg [.ints .u64 4]), .val (.c (.bool))], [.cell 6 24, .tmp 7]⟩
noncomputable def cw44 : Ctx Go.Proofs.Try.prog := ⟨wtab, ofL Ew28, wtabOk, Ew28_ok, wdep, word⟩
theorem eqw44 : ∀ x : psT Sw44.ps, exec wtab (ofL Ew28) 40 bodyw44 annw44 (fin wtab Sw44) (argSt Sw44 x) = Fw44 x := by
  rintro ⟨a0, a1, a2⟩
  kernel_rfl
theorem callsw44 : CallsAs Go.Proofs.Try.prog cw44 44 Sw44 Fw44 := by
  refine fun_calls (fn := Go.Proofs.Try.f44) (c := bodyw44) (ann := annw44) cw44 (by kernel_rfl) (by kernel_rfl) (by kernel_rfl) (by decide) (annOk_of_cuts ?_) eqw44
  intro x hx
  exact absurd hx (by show x ∉ ([] : List (List Nat × LEnt)); simp)

theorem entw44 : EntOk Go.Proofs.Try.prog 44 (funEnt Sw44 Fw44) := fun_ok cw44 (fn := Go.Proofs.Try.f44) (c := bodyw44) (by kernel_rfl) (by kernel_rfl) (by kernel_rfl) rfl rfl (by decide) callsw44
noncomputable def Ew44 : List (Nat × Ent) := (44, funEnt Sw44 Fw44) :: Ew28
theorem Ew44_ok : EntsOk Go.Proofs.Try.prog (ofL Ew44) := .cons entw44 Ew28_ok

/-! ### barbican/barbicanref04.Reduce -/
noncomputable def bodyw29 : Code := (Go.Proofs.Try.f29.body).getD .skip
abbrev lw29_1 : Lay := ⟨[(3, .ptr 3 0 4), (4, .ptr 4 0 4), (5, .ptr 5 0 4)], [.env 0 (.c (.fz (.int .u8))), .env 6 (.c (.int .i64)), .env 7 (.c (.int .u8)), .reg 3 (.cells [.ints .u64 4]), .reg 4 (.cells [.ints .u64 4]), .reg 5 (.cells [.ints .u64 4])], [(3, 3), (4, 4), (5, 5)]⟩
abbrev ow29_1 : List (AExit × Lay) := [(.exit 2, ⟨[(3, .ptr 3 0 4), (4, .ptr 4 0 4), (5, .ptr 5 0 4)], [.env 0 (.c (.fz (.int .u8))), .env 6 (.c (.int .i64)), .reg 3 (.cells [.ints .u64 4]), .reg 4 (.cells [.ints .u64 4]), .reg 5 (.cells [.ints .u64 4])], [(3, 3), (4, 4), (5, 5)]⟩)]
noncomputable def stepw29_1 : (List Int) × Int × Int × (Nat → Int) × (Nat → Int) × (Nat → Int) → Option (((List Int) × Int × Int × (Nat → Int) × (Nat → Int) × (Nat → Int)) ⊕ (((List Int) × Int × (Nat → Int) × (Nat → Int) × (Nat → Int))))
  | (t0, t6, t7, r3, r4, r5) =>
    if (decide (t7 > 0)) = true then
      if (0 : Int) ≤ t6 ∧ t6 < (t0.length : Int) then
        if t7 ≠ 0 then
          let x1 : Int := (IntKind.i64.wrap ((IntKind.u8.wrap ((t0.getD t6.toNat 0).tdiv t7)).tmod 2))
          (Fw44 (r5, x1, r3)).bind fun (y2, y3) =>
            some (.inl (t0, t6, (IntKind.u8.wrap (t7.tdiv 2)), r3, r4, y2))
        else none
      else none
    else
      some (.inr (t0, t6, r3, r4, r5))

noncomputable def annw29_1 : Ann := .none
abbrev lw29_0 : Lay := ⟨[(3, .ptr 3 0 4), (4, .ptr 4 0 4), (5, .ptr 5 0 4)], [.env 0 (.c (.fz (.int .u8))), .env 6 (.c (.int .i64)), .reg 3 (.cells [.ints .u64 4]), .reg 4 (.cells [.ints .u64 4]), .reg 5 (.cells [.ints .u64 4])], [(3, 3), (4, 4), (5, 5)]⟩
abbrev ow29_0 : List (AExit × Lay) := [(.exit 0, ⟨[(4, .ptr 4 0 4), (5, .ptr 5 0 4)], [.reg 4 (.cells [.ints .u64 4]), .reg 5 (.cells [.ints .u64 4])], [(4, 4), (5, 5)]⟩)]
noncomputable def stepw29_0 : (List Int) × Int × (Nat → Int) × (Nat → Int) × (Nat → Int) → Option (((List Int) × Int × (Nat → Int) × (Nat → Int) × (Nat → Int)) ⊕ (((Nat → Int) × (Nat → Int))))
  | (t0, t6, r3, r4, r5) =>
    if (decide (t6 < (t0.length : Int))) = true then
      (loopO stepw29_1 (t0, t6, 128, r3, r4, r5)).bind fun (z4, z5, z6, z7, z8) =>
        some (.inl (z4, (IntKind.i64.wrap (z5 + 1)), z6, z7, z8))
    else
      some (.inr (r4, r5))

noncomputable def annw29_0 : Ann := (.seq .none (.seq (.seq (.seq .none (.seq (.cut (cutEnt lw29_1 ow29_1 (loopO stepw29_1))) .none)) .none) .none))
noncomputable def Fw29 : List Int × (Nat → Int) → Option ((Nat → Int))
  | (a0, a1) =>
    (loopO stepw29_0 (a0, 0, a1, (fun _ => 0), (fun _ => 0))).bind fun (z9, z10) =>
      some z10

noncomputable def annw29 : Ann := (.seq .none (.seq .none (.seq (.seq .none (.seq (.cut (cutEnt lw29_0 ow29_0 (loopO stepw29_0))) .none)) .none)))
abbrev Sw29 : FSh := ⟨[.ints .u8, .val (.agg [.ints .u64 4])], [.val (.agg [.ints .u64 4])], [.cell 4 24]⟩
noncomputable def cw29 : Ctx Go.Proofs.Try.prog := ⟨wtab, ofL Ew44, wtabOk, Ew44_ok, wdep, word⟩
theorem eqw29_1 : ∀ s : lw29_1.T, exec wtab (ofL Ew44) 36 (Code.at' [1, 1, 0, 1, 0, 0, 1, 0, 0, 1, 0, 0] bodyw29) annw29_1 (fun e st => loopEnd (l := lw29_1) (outs := ow29_1) e st) (lw29_1.enc s) = stepw29_1 s := by
  rintro ⟨t0, t6, t7, r3, r4, r5⟩
  kernel_rfl
theorem okw29_1 : LOk Go.Proofs.Try.prog 36 (cutEnt lw29_1 ow29_1 (loopO stepw29_1)) (Code.at' [1, 1, 0, 1, 0, 0, 1, 0, 0, 1, 0] bodyw29) := by
  have e : Code.at' [1, 1, 0, 1, 0, 0, 1, 0, 0, 1, 0] bodyw29 = .loop (Code.at' [1, 1, 0, 1, 0, 0, 1, 0, 0, 1, 0, 0] bodyw29) := by kernel_rfl
  rw [e]
  refine loop_ok cw29 36 rfl rfl (annOk_of_cuts ?_) eqw29_1
  intro x hx
  exact absurd hx (by show x ∉ ([] : List (List Nat × LEnt)); simp)

theorem eqw29_0 : ∀ s : lw29_0.T, exec wtab (ofL Ew44) 36 (Code.at' [1, 1, 0, 1, 0, 0] bodyw29) annw29_0 (fun e st => loopEnd (l := lw29_0) (outs := ow29_0) e st) (lw29_0.enc s) = stepw29_0 s := by
  rintro ⟨t0, t6, r3, r4, r5⟩
  kernel_rfl
theorem okw29_0 : LOk Go.Proofs.Try.prog 36 (cutEnt lw29_0 ow29_0 (loopO stepw29_0)) (Code.at' [1, 1, 0, 1, 0] bodyw29) := by
  have e : Code.at' [1, 1, 0, 1, 0] bodyw29 = .loop (Code.at' [1, 1, 0, 1, 0, 0] bodyw29) := by kernel_rfl
  rw [e]
  refine loop_ok cw29 36 rfl rfl (annOk_of_cuts ?_) eqw29_0
  have hc : Ann.cuts annw29_0 = [([1, 0, 0, 1, 0], (cutEnt lw29_1 ow29_1 (loopO stepw29_1)))] := by kernel_rfl
  rw [hc]
  intro x hx
  simp only [List.mem_cons, List.not_mem_nil, or_false] at hx
  rcases hx with rfl
  · have e : Code.at' [1, 0, 0, 1, 0] (Code.at' [1, 1, 0, 1, 0, 0] bodyw29) = Code.at' [1, 1, 0, 1, 0, 0, 1, 0, 0, 1, 0] bodyw29 := by kernel_rfl
    rw [e]; exact okw29_1

theorem eqw29 : ∀ x : psT Sw29.ps, exec wtab (ofL Ew44) 36 bodyw29 annw29 (fin wtab Sw29) (argSt Sw29 x) = Fw29 x := by
  rintro ⟨a0, a1⟩
  kernel_rfl
theorem callsw29 : CallsAs Go.Proofs.Try.prog cw29 29 Sw29 Fw29 := by
  refine fun_calls (fn := Go.Proofs.Try.f29) (c := bodyw29) (ann := annw29) cw29 (by kernel_rfl) (by kernel_rfl) (by kernel_rfl) (by decide) (annOk_of_cuts ?_) eqw29
  have hc : Ann.cuts annw29 = [([1, 1, 0, 1, 0], (cutEnt lw29_0 ow29_0 (loopO stepw29_0)))] := by kernel_rfl
  rw [hc]
  intro x hx
  simp only [List.mem_cons, List.not_mem_nil, or_false] at hx
  rcases hx with rfl
  · have e : Code.at' [1, 1, 0, 1, 0] bodyw29 = Code.at' [1, 1, 0, 1, 0] bodyw29 := by kernel_rfl
    rw [e]; exact okw29_0

theorem entw29 : EntOk Go.Proofs.Try.prog 29 (funEnt Sw29 Fw29) := fun_ok cw29 (fn := Go.Proofs.Try.f29) (c := bodyw29) (by kernel_rfl) (by kernel_rfl) (by kernel_rfl) rfl rfl (by decide) callsw29
noncomputable def Ew29 : List (Nat × Ent) := (29, funEnt Sw29 Fw29) :: Ew44
theorem Ew29_ok : EntsOk Go.Proofs.Try.prog (ofL Ew29) := .cons entw29 Ew44_ok

/-! ### barbican/barbicanlaw04.WideReduces -/
noncomputable def bodyw6 : Code := (Go.Proofs.Try.f6.body).getD .skip
abbrev lw6_0 : Lay := ⟨[(3, .ptr 3 0 4), (6, .full 16), (7, .ptr 7 0 4)], [.env 0 (.c (.fz (.int .u8))), .env 5 (.c (.bool)), .env 8 (.c (.int .i64)), .env 9 (.c (.bool)), .env 10 (.c (.int .i64)), .reg 3 (.cells [.ints .u64 4]), .reg 16 (.row 5 .u8), .reg 7 (.cells [.ints .u64 4])], [(3, 3), (16, 6), (7, 7)]⟩
abbrev ow6_0 : List (AExit × Lay) := [(.exit 0, ⟨[(3, .ptr 3 0 4), (7, .ptr 7 0 4)], [.env 0 (.c (.fz (.int .u8))), .env 5 (.c (.bool)), .env 8 (.c (.int .i64)), .env 9 (.c (.bool)), .reg 3 (.cells [.ints .u64 4]), .reg 7 (.cells [.ints .u64 4])], [(3, 3), (7, 7)]⟩)]
noncomputable def stepw6_0 : (List Int) × Bool × Int × Bool × Int × (Nat → Int) × List Int × (Nat → Int) → Option (((List Int) × Bool × Int × Bool × Int × (Nat → Int) × List Int × (Nat → Int)) ⊕ (((List Int) × Bool × Int × Bool × (Nat → Int) × (Nat → Int))))
  | (t0, t5, t8, t9, t10, r3, r16, r7) =>
    if (decide (t10 < (t0.length : Int))) = true then
      if t9 = true then
        if (0 : Int) ≤ t10 ∧ t10 < (r16.length : Int) then
          if (0 : Int) ≤ t10 ∧ t10 < (t0.length : Int) then
            some (.inl (t0, t5, t8, ((r16.getD t10.toNat 0) == (t0.getD t10.toNat 0)), (IntKind.i64.wrap (t10 + 1)), r3, r16, r7))
          else none
        else none
      else
        some (.inl (t0, t5, t8, false, (IntKind.i64.wrap (t10 + 1)), r3, r16, r7))
    else
      some (.inr (t0, t5, t8, t9, r3, r7))

noncomputable def annw6_0 : Ann := .none
noncomputable def Fw6 : List Int × (Nat → Int) → Option (Bool)
  | (a0, a1) =>
    (Fw9 ()).bind fun y1 =>
      if okBytes ((List.replicate 0 (0 : Int)).length + a0.length) 1 then
        if okBytes (((List.replicate 0 (0 : Int)) ++ a0).length + ((List.replicate 1 (0 : Int)).set 0 77).length) 1 then
          let f2 : List Int := (((List.replicate 0 (0 : Int)) ++ a0) ++ ((List.replicate 1 (0 : Int)).set 0 77))
          if (0 : Int) ≤ (a0.length : Int) ∧ (a0.length : Int) ≤ (f2.length : Int) then
            (Fw28 (((f2.drop 0).take ((a0.length : Int).toNat - 0)), a1)).bind fun (y3, y4) =>
              if (0 : Int) ≤ (a0.length : Int) ∧ (a0.length : Int) < (f2.length : Int) then
                (loopO stepw6_0 (a0, y1, y4, ((f2.getD (a0.length : Int).toNat 0) == 77), 0, a1, f2, y3)).bind fun (z5, z6, z7, z8, z9, z10) =>
                  if (arrEq 4 z9 (fun _ => 0)) = true then
                    if z6 = true then
                      if z8 = true then
                        if (z7 == 42) = true then
                          some (arrEq 4 z10 (fun _ => 0))
                        else
                          some false
                      else
                        some false
                    else
                      some false
                  else
                    if z6 = true then
                      if z8 = true then
                        if (z7 == 0) = true then
                          (Fw29 (z5, z9)).bind fun y11 =>
                            some (arrEq 4 z10 y11)
                        else
                          some false
                      else
                        some false
                    else
                      some false
              else none
          else none
        else none
      else none

noncomputable def annw6 : Ann := (.seq .none (.seq .none (.seq .none (.seq .none (.seq .none (.seq (.seq .none (.seq (.cut (cutEnt lw6_0 ow6_0 (loopO stepw6_0))) .none)) .none))))))
abbrev Sw6 : FSh := ⟨[.ints .u8, .val (.agg [.ints .u64 4])], [.val (.c (.bool))], [.tmp 4]⟩
noncomputable def cw6 : Ctx Go.Proofs.Try.prog := ⟨wtab, ofL Ew29, wtabOk, Ew29_ok, wdep, word⟩
theorem eqw6_0 : ∀ s : lw6_0.T, exec wtab (ofL Ew29) 81 (Code.at' [1, 1, 1, 1, 1, 0, 1, 0, 0] bodyw6) annw6_0 (fun e st => loopEnd (l := lw6_0) (outs := ow6_0) e st) (lw6_0.enc s) = stepw6_0 s := by
  rintro ⟨t0, t5, t8, t9, t10, r3, r16, r7⟩
  kernel_rfl
theorem okw6_0 : LOk Go.Proofs.Try.prog 81 (cutEnt lw6_0 ow6_0 (loopO stepw6_0)) (Code.at' [1, 1, 1, 1, 1, 0, 1, 0] bodyw6) := by
  have e : Code.at' [1, 1, 1, 1, 1, 0, 1, 0] bodyw6 = .loop (Code.at' [1, 1, 1, 1, 1, 0, 1, 0, 0] bodyw6) := by kernel_rfl
  rw [e]
  refine loop_ok cw6 81 rfl rfl (annOk_of_cuts ?_) eqw6_0
  intro x hx
  exact absurd hx (by show x ∉ ([] : List (List Nat × LEnt)); simp)

theorem eqw6 : ∀ x : psT Sw6.ps, exec wtab (ofL Ew29) 81 bodyw6 annw6 (fin wtab Sw6) (argSt Sw6 x) = Fw6 x := by
  rintro ⟨a0, a1⟩
  kernel_rfl
theorem callsw6 : CallsAs Go.Proofs.Try.prog cw6 6 Sw6 Fw6 := by
  refine fun_calls (fn := Go.Proofs.Try.f6) (c := bodyw6) (ann := annw6) cw6 (by kernel_rfl) (by kernel_rfl) (by kernel_rfl) (by decide) (annOk_of_cuts ?_) eqw6
  have hc : Ann.cuts annw6 = [([1, 1, 1, 1, 1, 0, 1, 0], (cutEnt lw6_0 ow6_0 (loopO stepw6_0)))] := by kernel_rfl
  rw [hc]
  intro x hx
  simp only [List.mem_cons, List.not_mem_nil, or_false] at hx
  rcases hx with rfl
  · have e : Code.at' [1, 1, 1, 1, 1, 0, 1, 0] bodyw6 = Code.at' [1, 1, 1, 1, 1, 0, 1, 0] bodyw6 := by kernel_rfl
    rw [e]; exact okw6_0

theorem entw6 : EntOk Go.Proofs.Try.prog 6 (funEnt Sw6 Fw6) := fun_ok cw6 (fn := Go.Proofs.Try.f6) (c := bodyw6) (by kernel_rfl) (by kernel_rfl) (by kernel_rfl) rfl rfl (by decide) callsw6
noncomputable def Ew6 : List (Nat × Ent) := (6, funEnt Sw6 Fw6) :: Ew29
theorem Ew6_ok : EntsOk Go.Proofs.Try.prog (ofL Ew6) := .cons entw6 Ew29_ok

/-! ### math/bits.Mul64 -/
noncomputable def bodyw45 : Code := (Go.Proofs.Try.f45.body).getD .skip
noncomputable def Fw45 : Int × Int → Option (Int × Int)
  | (a0, a1) =>
    let x1 : Int := (IntKind.u64.wrap ((bitsAnd .u64 a0 4294967295) * (bitsAnd .u64 a1 4294967295)))
    let x2 : Int := (IntKind.u64.wrap ((shrI .u64 a0 32) * (bitsAnd .u64 a1 4294967295)))
    let x3 : Int := (bitsAnd .u64 (IntKind.u64.wrap (x2 + (shrI .u64 x1 32))) 4294967295)
    let x4 : Int := (IntKind.u64.wrap ((bitsAnd .u64 a0 4294967295) * (shrI .u64 a1 32)))
    let x5 : Int := (IntKind.u64.wrap ((IntKind.u64.wrap ((shrI .u64 a0 32) * (shrI .u64 a1 32))) + (shrI .u64 (IntKind.u64.wrap (x2 + (shrI .u64 x1 32))) 32)))
    let x6 : Int := (IntKind.u64.wrap (x5 + (shrI .u64 (IntKind.u64.wrap (x3 + x4)) 32)))
    some (x6, (IntKind.u64.wrap (a0 * a1)))

noncomputable def annw45 : Ann := .none
abbrev Sw45 : FSh := ⟨[.val (.c (.int .u64)), .val (.c (.int .u64))], [.val (.c (.int .u64)), .val (.c (.int .u64))], [.tmp 4, .tmp 5]⟩
noncomputable def cw45 : Ctx Go.Proofs.Try.prog := ⟨wtab, ofL Ew6, wtabOk, Ew6_ok, wdep, word⟩
theorem eqw45 : ∀ x : psT Sw45.ps, exec wtab (ofL Ew6) 51 bodyw45 annw45 (fin wtab Sw45) (argSt Sw45 x) = Fw45 x := by
  rintro ⟨a0, a1⟩
  kernel_rfl
theorem callsw45 : CallsAs Go.Proofs.Try.prog cw45 45 Sw45 Fw45 := by
  refine fun_calls (fn := Go.Proofs.Try.f45) (c := bodyw45) (ann := annw45) cw45 (by kernel_rfl) (by kernel_rfl) (by kernel_rfl) (by decide) (annOk_of_cuts ?_) eqw45
  intro x hx
  exact absurd hx (by show x ∉ ([] : List (List Nat × LEnt)); simp)

theorem entw45 : EntOk Go.Proofs.Try.prog 45 (funEnt Sw45 Fw45) := fun_ok cw45 (fn := Go.Proofs.Try.f45) (c := bodyw45) (by kernel_rfl) (by kernel_rfl) (by kernel_rfl) rfl rfl (by decide) callsw45
noncomputable def Ew45 : List (Nat × Ent) := (45, funEnt Sw45 Fw45) :: Ew6
theorem Ew45_ok : EntsOk Go.Proofs.Try.prog (ofL Ew45) := .cons entw45 Ew6_ok

/-! ### barbican/wide.Mul -/
noncomputable def bodyw30 : Code := (Go.Proofs.Try.f30.body).getD .skip
abbrev lw30_1 : Lay := ⟨[(3, .ptr 3 0 4), (4, .ptr 4 0 8), (5, .ptr 5 0 8)], [.env 6 (.c (.int .i64)), .env 7 (.c (.int .u64)), .env 8 (.c (.int .u64)), .env 14 (.agg [.ints .u64 4]), .env 15 (.c (.int .i64)), .env 19 (.agg [.ints .u64 4]), .env 20 (.c (.int .i64)), .reg 3 (.cells [.ints .u64 4]), .reg 4 (.cells [.ints .u64 8]), .reg 5 (.cells [.ints .u64 8])], [(3, 3), (4, 4), (5, 5)]⟩
abbrev ow30_1 : List (AExit × Lay) := [(.exit 2, ⟨[(3, .ptr 3 0 4), (4, .ptr 4 0 8), (5, .ptr 5 0 8)], [.env 6 (.c (.int .i64)), .env 8 (.c (.int .u64)), .env 14 (.agg [.ints .u64 4]), .env 15 (.c (.int .i64)), .reg 3 (.cells [.ints .u64 4]), .reg 4 (.cells [.ints .u64 8]), .reg 5 (.cells [.ints .u64 8])], [(3, 3), (4, 4), (5, 5)]⟩)]
noncomputable def stepw30_1 : Int × Int × Int × (Nat → Int) × Int × (Nat → Int) × Int × (Nat → Int) × (Nat → Int) × (Nat → Int) → Option ((Int × Int × Int × (Nat → Int) × Int × (Nat → Int) × Int × (Nat → Int) × (Nat → Int) × (Nat → Int)) ⊕ ((Int × Int × (Nat → Int) × Int × (Nat → Int) × (Nat → Int) × (Nat → Int))))
  | (t6, t7, t8, t14, t15, t19, t20, r3, r4, r5) =>
    if (decide (t20 < 4)) = true then
      if (0 : Int) ≤ t20 ∧ t20 < (4 : Int) then
        (Fw45 (t7, (t19 t20.toNat))).bind fun (y1, y2) =>
          if (0 : Int) ≤ (IntKind.i64.wrap (t6 + t20)) ∧ (IntKind.i64.wrap (t6 + t20)) < ((8 : Int) : Int) then
            (add64F (y2, (r5 (IntKind.i64.wrap (t6 + t20)).toNat), 0)).bind fun (y3, y4) =>
              (add64F (y3, t8, 0)).bind fun (y5, y6) =>
                if (0 : Int) ≤ (IntKind.i64.wrap (t6 + t20)) ∧ (IntKind.i64.wrap (t6 + t20)) < ((8 : Int) : Int) then
                  some (.inl (t6, t7, (IntKind.u64.wrap ((IntKind.u64.wrap (y1 + y4)) + y6)), t14, t15, t19, (IntKind.i64.wrap (t20 + 1)), r3, r4, (upd r5 (IntKind.i64.wrap (t6 + t20)).toNat y5)))
                else none
          else none
      else none
    else
      some (.inr (t6, t8, t14, t15, r3, r4, r5))

noncomputable def annw30_1 : Ann := .none
abbrev lw30_0 : Lay := ⟨[(3, .ptr 3 0 4), (4, .ptr 4 0 8), (5, .ptr 5 0 8)], [.env 14 (.agg [.ints .u64 4]), .env 15 (.c (.int .i64)), .reg 3 (.cells [.ints .u64 4]), .reg 4 (.cells [.ints .u64 8]), .reg 5 (.cells [.ints .u64 8])], [(3, 3), (4, 4), (5, 5)]⟩
abbrev ow30_0 : List (AExit × Lay) := [(.exit 0, ⟨[(4, .ptr 4 0 8), (5, .ptr 5 0 8)], [.reg 4 (.cells [.ints .u64 8]), .reg 5 (.cells [.ints .u64 8])], [(4, 4), (5, 5)]⟩)]
noncomputable def stepw30_0 : (Nat → Int) × Int × (Nat → Int) × (Nat → Int) × (Nat → Int) → Option (((Nat → Int) × Int × (Nat → Int) × (Nat → Int) × (Nat → Int)) ⊕ (((Nat → Int) × (Nat → Int))))
  | (t14, t15, r3, r4, r5) =>
    if (decide (t15 < 4)) = true then
      if (0 : Int) ≤ t15 ∧ t15 < (4 : Int) then
        (loopO stepw30_1 (t15, (t14 t15.toNat), 0, t14, t15, r3, 0, r3, r4, r5)).bind fun (z7, z8, z9, z10, z11, z12, z13) =>
          if (0 : Int) ≤ (IntKind.i64.wrap (z7 + 4)) ∧ (IntKind.i64.wrap (z7 + 4)) < ((8 : Int) : Int) then
            some (.inl (z9, (IntKind.i64.wrap (z10 + 1)), z11, z12, (upd z13 (IntKind.i64.wrap (z7 + 4)).toNat z8)))
          else none
      else none
    else
      some (.inr (r4, r5))

noncomputable def annw30_0 : Ann := (.seq .none (.seq .none (.seq (.seq (.seq .none (.seq .none (.seq (.seq .none (.seq (.cut (cutEnt lw30_1 ow30_1 (loopO stepw30_1))) .none)) .none))) .none) .none)))
noncomputable def Fw30 : (Nat → Int) × (Nat → Int) → Option ((Nat → Int))
  | (a0, a1) =>
    (loopO stepw30_0 (a0, 0, a1, (fun _ => 0), (fun _ => 0))).bind fun (z14, z15) =>
      some z15

noncomputable def annw30 : Ann := (.seq .none (.seq .none (.seq (.seq .none (.seq (.cut (cutEnt lw30_0 ow30_0 (loopO stepw30_0))) .none)) .none)))
abbrev Sw30 : FSh := ⟨[.val (.agg [.ints .u64 4]), .val (.agg [.ints .u64 4])], [.val (.agg [.ints .u64 8])], [.cell 4 45]⟩
noncomputable def cw30 : Ctx Go.Proofs.Try.prog := ⟨wtab, ofL Ew45, wtabOk, Ew45_ok, wdep, word⟩
theorem eqw30_1 : ∀ s : lw30_1.T, exec wtab (ofL Ew45) 65 (Code.at' [1, 1, 0, 1, 0, 0, 1, 1, 0, 0, 1, 1, 0, 1, 0, 0] bodyw30) annw30_1 (fun e st => loopEnd (l := lw30_1) (outs := ow30_1) e st) (lw30_1.enc s) = stepw30_1 s := by
  rintro ⟨t6, t7, t8, t14, t15, t19, t20, r3, r4, r5⟩
  kernel_rfl
theorem okw30_1 : LOk Go.Proofs.Try.prog 65 (cutEnt lw30_1 ow30_1 (loopO stepw30_1)) (Code.at' [1, 1, 0, 1, 0, 0, 1, 1, 0, 0, 1, 1, 0, 1, 0] bodyw30) := by
  have e : Code.at' [1, 1, 0, 1, 0, 0, 1, 1, 0, 0, 1, 1, 0, 1, 0] bodyw30 = .loop (Code.at' [1, 1, 0, 1, 0, 0, 1, 1, 0, 0, 1, 1, 0, 1, 0, 0] bodyw30) := by kernel_rfl
  rw [e]
  refine loop_ok cw30 65 rfl rfl (annOk_of_cuts ?_) eqw30_1
  intro x hx
  exact absurd hx (by show x ∉ ([] : List (List Nat × LEnt)); simp)

theorem eqw30_0 : ∀ s : lw30_0.T, exec wtab (ofL Ew45) 65 (Code.at' [1, 1, 0, 1, 0, 0] bodyw30) annw30_0 (fun e st => loopEnd (l := lw30_0) (outs := ow30_0) e st) (lw30_0.enc s) = stepw30_0 s := by
  rintro ⟨t14, t15, r3, r4, r5⟩
  kernel_rfl
theorem okw30_0 : LOk Go.Proofs.Try.prog 65 (cutEnt lw30_0 ow30_0 (loopO stepw30_0)) (Code.at' [1, 1, 0, 1, 0] bodyw30) := by
  have e : Code.at' [1, 1, 0, 1, 0] bodyw30 = .loop (Code.at' [1, 1, 0, 1, 0, 0] bodyw30) := by kernel_rfl
  rw [e]
  refine loop_ok cw30 65 rfl rfl (annOk_of_cuts ?_) eqw30_0
  have hc : Ann.cuts annw30_0 = [([1, 1, 0, 0, 1, 1, 0, 1, 0], (cutEnt lw30_1 ow30_1 (loopO stepw30_1)))] := by kernel_rfl
  rw [hc]
  intro x hx
  simp only [List.mem_cons, List.not_mem_nil, or_false] at hx
  rcases hx with rfl
  · have e : Code.at' [1, 1, 0, 0, 1, 1, 0, 1, 0] (Code.at' [1, 1, 0, 1, 0, 0] bodyw30) = Code.at' [1, 1, 0, 1, 0, 0, 1, 1, 0, 0, 1, 1, 0, 1, 0] bodyw30 := by kernel_rfl
    rw [e]; exact okw30_1

theorem eqw30 : ∀ x : psT Sw30.ps, exec wtab (ofL Ew45) 65 bodyw30 annw30 (fin wtab Sw30) (argSt Sw30 x) = Fw30 x := by
  rintro ⟨a0, a1⟩
  kernel_rfl
theorem callsw30 : CallsAs Go.Proofs.Try.prog cw30 30 Sw30 Fw30 := by
  refine fun_calls (fn := Go.Proofs.Try.f30) (c := bodyw30) (ann := annw30) cw30 (by kernel_rfl) (by kernel_rfl) (by kernel_rfl) (by decide) (annOk_of_cuts ?_) eqw30
  have hc : Ann.cuts annw30 = [([1, 1, 0, 1, 0], (cutEnt lw30_0 ow30_0 (loopO stepw30_0)))] := by kernel_rfl
  rw [hc]
  intro x hx
  simp only [List.mem_cons, List.not_mem_nil, or_false] at hx
  rcases hx with rfl
  · have e : Code.at' [1, 1, 0, 1, 0] bodyw30 = Code.at' [1, 1, 0, 1, 0] bodyw30 := by kernel_rfl
    rw [e]; exact okw30_0

theorem entw30 : EntOk Go.Proofs.Try.prog 30 (funEnt Sw30 Fw30) := fun_ok cw30 (fn := Go.Proofs.Try.f30) (c := bodyw30) (by kernel_rfl) (by kernel_rfl) (by kernel_rfl) rfl rfl (by decide) callsw30
noncomputable def Ew30 : List (Nat × Ent) := (30, funEnt Sw30 Fw30) :: Ew45
theorem Ew30_ok : EntsOk Go.Proofs.Try.prog (ofL Ew30) := .cons entw30 Ew45_ok

/-! ### barbican/barbicanlaw04.halves -/
noncomputable def bodyw31 : Code := (Go.Proofs.Try.f31.body).getD .skip
noncomputable def Fw31 : (Nat → Int) → Option ((Nat → Int) × (Nat → Int))
  | a0 =>
    let f1 : Nat → Int := (upd (upd (upd (upd (fun _ => 0) 0 (a0 0)) 1 (a0 1)) 2 (a0 2)) 3 (a0 3))
    let f2 : Nat → Int := (upd (upd (upd (upd (fun _ => 0) 0 (a0 4)) 1 (a0 5)) 2 (a0 6)) 3 (a0 7))
    some (f1, f2)

noncomputable def annw31 : Ann := .none
abbrev Sw31 : FSh := ⟨[.val (.agg [.ints .u64 8])], [.val (.agg [.ints .u64 4]), .val (.agg [.ints .u64 4])], [.cell 2 24, .cell 3 24]⟩
noncomputable def cw31 : Ctx Go.Proofs.Try.prog := ⟨wtab, ofL Ew30, wtabOk, Ew30_ok, wdep, word⟩
theorem eqw31 : ∀ x : psT Sw31.ps, exec wtab (ofL Ew30) 22 bodyw31 annw31 (fin wtab Sw31) (argSt Sw31 x) = Fw31 x := by
  intro x
  kernel_rfl
theorem callsw31 : CallsAs Go.Proofs.Try.prog cw31 31 Sw31 Fw31 := by
  refine fun_calls (fn := Go.Proofs.Try.f31) (c := bodyw31) (ann := annw31) cw31 (by kernel_rfl) (by kernel_rfl) (by kernel_rfl) (by decide) (annOk_of_cuts ?_) eqw31
  intro x hx
  exact absurd hx (by show x ∉ ([] : List (List Nat × LEnt)); simp)

theorem entw31 : EntOk Go.Proofs.Try.prog 31 (funEnt Sw31 Fw31) := fun_ok cw31 (fn := Go.Proofs.Try.f31) (c := bodyw31) (by kernel_rfl) (by kernel_rfl) (by kernel_rfl) rfl rfl (by decide) callsw31
noncomputable def Ew31 : List (Nat × Ent) := (31, funEnt Sw31 Fw31) :: Ew30
theorem Ew31_ok : EntsOk Go.Proofs.Try.prog (ofL Ew31) := .cons entw31 Ew30_ok

/-! ### barbican/wide.DivRem -/
noncomputable def bodyw32 : Code := (Go.Proofs.Try.f32.body).getD .skip
abbrev lw32_0 : Lay := ⟨[(2, .ptr 2 0 8), (3, .ptr 3 0 4), (4, .ptr 4 0 8), (5, .ptr 5 0 4), (7, .ptr 7 0 8), (8, .ptr 8 0 4)], [.env 9 (.c (.int .i64)), .reg 2 (.cells [.ints .u64 8]), .reg 3 (.cells [.ints .u64 4]), .reg 4 (.cells [.ints .u64 8]), .reg 5 (.cells [.ints .u64 4]), .reg 7 (.cells [.ints .u64 8]), .reg 8 (.cells [.ints .u64 4])], [(2, 2), (3, 3), (4, 4), (5, 5), (7, 7), (8, 8)]⟩
abbrev ow32_0 : List (AExit × Lay) := [(.exit 0, ⟨[(4, .ptr 4 0 8), (5, .ptr 5 0 4), (7, .ptr 7 0 8), (8, .ptr 8 0 4)], [.reg 4 (.cells [.ints .u64 8]), .reg 5 (.cells [.ints .u64 4]), .reg 7 (.cells [.ints .u64 8]), .reg 8 (.cells [.ints .u64 4])], [(4, 4), (5, 5), (7, 7), (8, 8)]⟩)]
noncomputable def stepw32_0 : Int × (Nat → Int) × (Nat → Int) × (Nat → Int) × (Nat → Int) × (Nat → Int) × (Nat → Int) → Option ((Int × (Nat → Int) × (Nat → Int) × (Nat → Int) × (Nat → Int) × (Nat → Int) × (Nat → Int)) ⊕ (((Nat → Int) × (Nat → Int) × (Nat → Int) × (Nat → Int))))
  | (t9, r2, r3, r4, r5, r7, r8) =>
    if (decide (t9 ≥ 0)) = true then
      if (0 : Int) ≤ (IntKind.i64.wrap (t9.tdiv 64)) ∧ (IntKind.i64.wrap (t9.tdiv 64)) < ((8 : Int) : Int) then
        if 0 ≤ (t9.tmod 64) then
          let x1 : Int := (shrI .u64 (r2 (IntKind.i64.wrap (t9.tdiv 64)).toNat) (t9.tmod 64))
          (Fw43 (r8, (IntKind.i64.wrap (bitsAnd .u64 x1 1)), r3)).bind fun (y2, y3) =>
            if y3 = true then
              if (0 : Int) ≤ (IntKind.i64.wrap (t9.tdiv 64)) ∧ (IntKind.i64.wrap (t9.tdiv 64)) < ((8 : Int) : Int) then
                if 0 ≤ (t9.tmod 64) then
                  let x4 : Int := (bitsOr .u64 (r7 (IntKind.i64.wrap (t9.tdiv 64)).toNat) (shlI .u64 1 (t9.tmod 64)))
                  if (0 : Int) ≤ (IntKind.i64.wrap (t9.tdiv 64)) ∧ (IntKind.i64.wrap (t9.tdiv 64)) < ((8 : Int) : Int) then
                    some (.inl ((IntKind.i64.wrap (t9 - 1)), r2, r3, r4, r5, (upd r7 (IntKind.i64.wrap (t9.tdiv 64)).toNat x4), y2))
                  else none
                else none
              else none
            else
              some (.inl ((IntKind.i64.wrap (t9 - 1)), r2, r3, r4, r5, r7, y2))
        else none
      else none
    else
      some (.inr (r4, r5, r7, r8))

noncomputable def annw32_0 : Ann := .none
noncomputable def Fw32 : (Nat → Int) × (Nat → Int) → Option ((Nat → Int) × (Nat → Int) × Int)
  | (a0, a1) =>
    if (arrEq 4 a1 (fun _ => 0)) = true then
      some ((fun _ => 0), (fun _ => 0), 42)
    else
      (loopO stepw32_0 (511, a0, a1, (fun _ => 0), (fun _ => 0), (fun _ => 0), (fun _ => 0))).bind fun (z5, z6, z7, z8) =>
        some (z7, z8, 0)

noncomputable def annw32 : Ann := (.seq .none (.seq .none (.seq .none (.seq .none (.seq (.seq .none (.seq (.cut (cutEnt lw32_0 ow32_0 (loopO stepw32_0))) .none)) .none)))))
abbrev Sw32 : FSh := ⟨[.val (.agg [.ints .u64 8]), .val (.agg [.ints .u64 4])], [.val (.agg [.ints .u64 8]), .val (.agg [.ints .u64 4]), .val (.c (.int .i64))], [.cell 4 45, .cell 5 24, .tmp 6]⟩
noncomputable def cw32 : Ctx Go.Proofs.Try.prog := ⟨wtab, ofL Ew31, wtabOk, Ew31_ok, wdep, word⟩
theorem eqw32_0 : ∀ s : lw32_0.T, exec wtab (ofL Ew31) 47 (Code.at' [1, 1, 1, 1, 0, 1, 0, 0] bodyw32) annw32_0 (fun e st => loopEnd (l := lw32_0) (outs := ow32_0) e st) (lw32_0.enc s) = stepw32_0 s := by
  rintro ⟨t9, r2, r3, r4, r5, r7, r8⟩
  kernel_rfl
theorem okw32_0 : LOk Go.Proofs.Try.prog 47 (cutEnt lw32_0 ow32_0 (loopO stepw32_0)) (Code.at' [1, 1, 1, 1, 0, 1, 0] bodyw32) := by
  have e : Code.at' [1, 1, 1, 1, 0, 1, 0] bodyw32 = .loop (Code.at' [1, 1, 1, 1, 0, 1, 0, 0] bodyw32) := by kernel_rfl
  rw [e]
  refine loop_ok cw32 47 rfl rfl (annOk_of_cuts ?_) eqw32_0
  intro x hx
  exact absurd hx (by show x ∉ ([] : List (List Nat × LEnt)); simp)

theorem eqw32 : ∀ x : psT Sw32.ps, exec wtab (ofL Ew31) 47 bodyw32 annw32 (fin wtab Sw32) (argSt Sw32 x) = Fw32 x := by
  rintro ⟨a0, a1⟩
  kernel_rfl
theorem callsw32 : CallsAs Go.Proofs.Try.prog cw32 32 Sw32 Fw32 := by
  refine fun_calls (fn := Go.Proofs.Try.f32) (c := bodyw32) (ann := annw32) cw32 (by kernel_rfl) (by kernel_rfl) (by kernel_rfl) (by decide) (annOk_of_cuts ?_) eqw32
  have hc : Ann.cuts annw32 = [([1, 1, 1, 1, 0, 1, 0], (cutEnt lw32_0 ow32_0 (loopO stepw32_0)))] := by kernel_rfl
  rw [hc]
  intro x hx
  simp only [List.mem_cons, List.not_mem_nil, or_false] at hx
  rcases hx with rfl
  · have e : Code.at' [1, 1, 1, 1, 0, 1, 0] bodyw32 = Code.at' [1, 1, 1, 1, 0, 1, 0] bodyw32 := by kernel_rfl
    rw [e]; exact okw32_0

theorem entw32 : EntOk Go.Proofs.Try.prog 32 (funEnt Sw32 Fw32) := fun_ok cw32 (fn := Go.Proofs.Try.f32) (c := bodyw32) (by kernel_rfl) (by kernel_rfl) (by kernel_rfl) rfl rfl (by decide) callsw32
noncomputable def Ew32 : List (Nat × Ent) := (32, funEnt Sw32 Fw32) :: Ew31
theorem Ew32_ok : EntsOk Go.Proofs.Try.prog (ofL Ew32) := .cons entw32 Ew31_ok

/-! ### barbican/barbicanlaw04.WideAlgebra -/
noncomputable def bodyw7 : Code := (Go.Proofs.Try.f7.body).getD .skip
noncomputable def Fw7 : (Nat → Int) × (Nat → Int) × (Nat → Int) → Option (Bool)
  | (a0, a1, a2) =>
    (Fw9 ()).bind fun y1 =>
      (Fw10 (a0, a1)).bind fun (y2, y3) =>
        (Fw10 (a1, a0)).bind fun (y4, y5) =>
          (Fw11 (y2, a1)).bind fun (y6, y7) =>
            if (arrEq 4 y2 y4) = true then
              if (y3 == y5) = true then
                if (arrEq 4 y6 a0) = true then
                  (Fw30 (a0, a1)).bind fun y8 =>
                    (Fw30 (a1, a0)).bind fun y9 =>
                      (Fw10 (a1, a2)).bind fun (y10, y11) =>
                        (Fw30 (a0, y10)).bind fun y12 =>
                          (Fw31 y12).bind fun (y13, y14) =>
                            (Fw31 y8).bind fun (y15, y16) =>
                              (Fw30 (a0, a2)).bind fun y17 =>
                                (Fw31 y17).bind fun (y18, y19) =>
                                  (Fw10 (y15, y18)).bind fun (y20, y21) =>
                                    if (arrEq 4 a2 (fun _ => 0)) = true then
                                      if y1 = true then
                                        if (y7 == y3) = true then
                                          if (arrEq 8 y8 y9) = true then
                                            some (arrEq 4 y13 y20)
                                          else
                                            some false
                                        else
                                          some false
                                      else
                                        some false
                                    else
                                      (Fw32 (y8, a2)).bind fun (y22, y23, y24) =>
                                        (Fw31 y22).bind fun (y25, y26) =>
                                          (Fw31 y8).bind fun (y27, y28) =>
                                            (Fw30 (y25, a2)).bind fun y29 =>
                                              (Fw31 y29).bind fun (y30, y31) =>
                                                (Fw30 (y26, a2)).bind fun y32 =>
                                                  (Fw31 y32).bind fun (y33, y34) =>
                                                    (Fw10 (y30, y23)).bind fun (y35, y36) =>
                                                      (Fw10 (y31, y33)).bind fun (y37, y38) =>
                                                        (Fw10 (y37, (upd (fun _ => 0) 0 (IntKind.u64.wrap y36)))).bind fun (y39, y40) =>
                                                          if (arrEq 4 y35 y27) = true then
                                                            if (arrEq 4 y39 y28) = true then
                                                              if (y38 == 0) = true then
                                                                if (y40 == 0) = true then
                                                                  if y1 = true then
                                                                    if (y7 == y3) = true then
                                                                      if (arrEq 8 y8 y9) = true then
                                                                        if (arrEq 4 y13 y20) = true then
                                                                          if (y24 == 0) = true then
                                                                            (Fw26 (y23, a2)).bind fun y41 =>
                                                                              if (decide (y41 < 0)) = true then
                                                                                some (arrEq 4 y34 (fun _ => 0))
                                                                              else
                                                                                some false
                                                                          else
                                                                            some false
                                                                        else
                                                                          some false
                                                                      else
                                                                        some false
                                                                    else
                                                                      some false
                                                                  else
                                                                    some false
                                                                else
                                                                  if y1 = true then
                                                                    if (y7 == y3) = true then
                                                                      if (arrEq 8 y8 y9) = true then
                                                                        if (arrEq 4 y13 y20) = true then
                                                                          if (y24 == 0) = true then
                                                                            (Fw26 (y23, a2)).bind fun y42 =>
                                                                              if (decide (y42 < 0)) = true then
                                                                                some false
                                                                              else
                                                                                some false
                                                                          else
                                                                            some false
                                                                        else
                                                                          some false
                                                                      else
                                                                        some false
                                                                    else
                                                                      some false
                                                                  else
                                                                    some false
                                                              else
                                                                if y1 = true then
                                                                  if (y7 == y3) = true then
                                                                    if (arrEq 8 y8 y9) = true then
                                                                      if (arrEq 4 y13 y20) = true then
                                                                        if (y24 == 0) = true then
                                                                          (Fw26 (y23, a2)).bind fun y43 =>
                                                                            if (decide (y43 < 0)) = true then
                                                                              some false
                                                                            else
                                                                              some false
                                                                        else
                                                                          some false
                                                                      else
                                                                        some false
                                                                    else
                                                                      some false
                                                                  else
                                                                    some false
                                                                else
                                                                  some false
                                                            else
                                                              if y1 = true then
                                                                if (y7 == y3) = true then
                                                                  if (arrEq 8 y8 y9) = true then
                                                                    if (arrEq 4 y13 y20) = true then
                                                                      if (y24 == 0) = true then
                                                                        (Fw26 (y23, a2)).bind fun y44 =>
                                                                          if (decide (y44 < 0)) = true then
                                                                            some false
                                                                          else
                                                                            some false
                                                                      else
                                                                        some false
                                                                    else
                                                                      some false
                                                                  else
                                                                    some false
                                                                else
                                                                  some false
                                                              else
                                                                some false
                                                          else
                                                            if y1 = true then
                                                              if (y7 == y3) = true then
                                                                if (arrEq 8 y8 y9) = true then
                                                                  if (arrEq 4 y13 y20) = true then
                                                                    if (y24 == 0) = true then
                                                                      (Fw26 (y23, a2)).bind fun y45 =>
                                                                        if (decide (y45 < 0)) = true then
                                                                          some false
                                                                        else
                                                                          some false
                                                                    else
                                                                      some false
                                                                  else
                                                                    some false
                                                                else
                                                                  some false
                                                              else
                                                                some false
                                                            else
                                                              some false
                else
                  (Fw30 (a0, a1)).bind fun y46 =>
                    (Fw30 (a1, a0)).bind fun y47 =>
                      (Fw10 (a1, a2)).bind fun (y48, y49) =>
                        (Fw30 (a0, y48)).bind fun y50 =>
                          (Fw31 y50).bind fun (y51, y52) =>
                            (Fw31 y46).bind fun (y53, y54) =>
                              (Fw30 (a0, a2)).bind fun y55 =>
                                (Fw31 y55).bind fun (y56, y57) =>
                                  (Fw10 (y53, y56)).bind fun (y58, y59) =>
                                    if (arrEq 4 a2 (fun _ => 0)) = true then
                                      if y1 = true then
                                        some false
                                      else
                                        some false
                                    else
                                      (Fw32 (y46, a2)).bind fun (y60, y61, y62) =>
                                        (Fw31 y60).bind fun (y63, y64) =>
                                          (Fw31 y46).bind fun (y65, y66) =>
                                            (Fw30 (y63, a2)).bind fun y67 =>
                                              (Fw31 y67).bind fun (y68, y69) =>
                                                (Fw30 (y64, a2)).bind fun y70 =>
                                                  (Fw31 y70).bind fun (y71, y72) =>
                                                    (Fw10 (y68, y61)).bind fun (y73, y74) =>
                                                      (Fw10 (y69, y71)).bind fun (y75, y76) =>
                                                        (Fw10 (y75, (upd (fun _ => 0) 0 (IntKind.u64.wrap y74)))).bind fun (y77, y78) =>
                                                          if (arrEq 4 y73 y65) = true then
                                                            if (arrEq 4 y77 y66) = true then
                                                              if (y76 == 0) = true then
                                                                if (y78 == 0) = true then
                                                                  if y1 = true then
                                                                    some false
                                                                  else
                                                                    some false
                                                                else
                                                                  if y1 = true then
                                                                    some false
                                                                  else
                                                                    some false
                                                              else
                                                                if y1 = true then
                                                                  some false
                                                                else
                                                                  some false
                                                            else
                                                              if y1 = true then
                                                                some false
                                                              else
                                                                some false
                                                          else
                                                            if y1 = true then
                                                              some false
                                                            else
                                                              some false
              else
                (Fw30 (a0, a1)).bind fun y79 =>
                  (Fw30 (a1, a0)).bind fun y80 =>
                    (Fw10 (a1, a2)).bind fun (y81, y82) =>
                      (Fw30 (a0, y81)).bind fun y83 =>
                        (Fw31 y83).bind fun (y84, y85) =>
                          (Fw31 y79).bind fun (y86, y87) =>
                            (Fw30 (a0, a2)).bind fun y88 =>
                              (Fw31 y88).bind fun (y89, y90) =>
                                (Fw10 (y86, y89)).bind fun (y91, y92) =>
                                  if (arrEq 4 a2 (fun _ => 0)) = true then
                                    if y1 = true then
                                      some false
                                    else
                                      some false
                                  else
                                    (Fw32 (y79, a2)).bind fun (y93, y94, y95) =>
                                      (Fw31 y93).bind fun (y96, y97) =>
                                        (Fw31 y79).bind fun (y98, y99) =>
                                          (Fw30 (y96, a2)).bind fun y100 =>
                                            (Fw31 y100).bind fun (y101, y102) =>
                                              (Fw30 (y97, a2)).bind fun y103 =>
                                                (Fw31 y103).bind fun (y104, y105) =>
                                                  (Fw10 (y101, y94)).bind fun (y106, y107) =>
                                                    (Fw10 (y102, y104)).bind fun (y108, y109) =>
                                                      (Fw10 (y108, (upd (fun _ => 0) 0 (IntKind.u64.wrap y107)))).bind fun (y110, y111) =>
                                                        if (arrEq 4 y106 y98) = true then
                                                          if (arrEq 4 y110 y99) = true then
                                                            if (y109 == 0) = true then
                                                              if (y111 == 0) = true then
                                                                if y1 = true then
                                                                  some false
                                                                else
                                                                  some false
                                                              else
                                                                if y1 = true then
                                                                  some false
                                                                else
                                                                  some false
                                                            else
                                                              if y1 = true then
                                                                some false
                                                              else
                                                                some false
                                                          else
                                                            if y1 = true then
                                                              some false
                                                            else
                                                              some false
                                                        else
                                                          if y1 = true then
                                                            some false
                                                          else
                                                            some false
            else
              (Fw30 (a0, a1)).bind fun y112 =>
                (Fw30 (a1, a0)).bind fun y113 =>
                  (Fw10 (a1, a2)).bind fun (y114, y115) =>
                    (Fw30 (a0, y114)).bind fun y116 =>
                      (Fw31 y116).bind fun (y117, y118) =>
                        (Fw31 y112).bind fun (y119, y120) =>
                          (Fw30 (a0, a2)).bind fun y121 =>
                            (Fw31 y121).bind fun (y122, y123) =>
                              (Fw10 (y119, y122)).bind fun (y124, y125) =>
                                if (arrEq 4 a2 (fun _ => 0)) = true then
                                  if y1 = true then
                                    some false
                                  else
                                    some false
                                else
                                  (Fw32 (y112, a2)).bind fun (y126, y127, y128) =>
                                    (Fw31 y126).bind fun (y129, y130) =>
                                      (Fw31 y112).bind fun (y131, y132) =>
                                        (Fw30 (y129, a2)).bind fun y133 =>
                                          (Fw31 y133).bind fun (y134, y135) =>
                                            (Fw30 (y130, a2)).bind fun y136 =>
                                              (Fw31 y136).bind fun (y137, y138) =>
                                                (Fw10 (y134, y127)).bind fun (y139, y140) =>
                                                  (Fw10 (y135, y137)).bind fun (y141, y142) =>
                                                    (Fw10 (y141, (upd (fun _ => 0) 0 (IntKind.u64.wrap y140)))).bind fun (y143, y144) =>
                                                      if (arrEq 4 y139 y131) = true then
                                                        if (arrEq 4 y143 y132) = true then
                                                          if (y142 == 0) = true then
                                                            if (y144 == 0) = true then
                                                              if y1 = true then
                                                                some false
                                                              else
                                                                some false
                                                            else
                                                              if y1 = true then
                                                                some false
                                                              else
                                                                some false
                                                          else
                                                            if y1 = true then
                                                              some false
                                                            else
                                                              some false
                                                        else
                                                          if y1 = true then
                                                            some false
                                                          else
                                                            some false
                                                      else
                                                        if y1 = true then
                                                          some false
                                                        else
                                                          some false

noncomputable def annw7 : Ann := .none
abbrev Sw7 : FSh := ⟨[.val (.agg [.ints .u64 4]), .val (.agg [.ints .u64 4]), .val (.agg [.ints .u64 4])], [.val (.c (.bool))], [.tmp 6]⟩
noncomputable def cw7 : Ctx Go.Proofs.Try.prog := ⟨wtab, ofL Ew32, wtabOk, Ew32_ok, wdep, word⟩
theorem eqw7 : ∀ x : psT Sw7.ps, exec wtab (ofL Ew32) 232 bodyw7 annw7 (fin wtab Sw7) (argSt Sw7 x) = Fw7 x := by
  rintro ⟨a0, a1, a2⟩
  kernel_rfl
theorem callsw7 : CallsAs Go.Proofs.Try.prog cw7 7 Sw7 Fw7 := by
  refine fun_calls (fn := Go.Proofs.Try.f7) (c := bodyw7) (ann := annw7) cw7 (by kernel_rfl) (by kernel_rfl) (by kernel_rfl) (by decide) (annOk_of_cuts ?_) eqw7
  intro x hx
  exact absurd hx (by show x ∉ ([] : List (List Nat × LEnt)); simp)

theorem entw7 : EntOk Go.Proofs.Try.prog 7 (funEnt Sw7 Fw7) := fun_ok cw7 (fn := Go.Proofs.Try.f7) (c := bodyw7) (by kernel_rfl) (by kernel_rfl) (by kernel_rfl) rfl rfl (by decide) callsw7
noncomputable def Ew7 : List (Nat × Ent) := (7, funEnt Sw7 Fw7) :: Ew32
theorem Ew7_ok : EntsOk Go.Proofs.Try.prog (ofL Ew7) := .cons entw7 Ew32_ok

/-! ### barbican/wide.MulMod -/
noncomputable def bodyw33 : Code := (Go.Proofs.Try.f33.body).getD .skip
noncomputable def Fw33 : (Nat → Int) × (Nat → Int) × (Nat → Int) → Option ((Nat → Int) × Int)
  | (a0, a1, a2) =>
    (Fw30 (a0, a1)).bind fun y1 =>
      (Fw32 (y1, a2)).bind fun (y2, y3, y4) =>
        some (y3, y4)

noncomputable def annw33 : Ann := .none
abbrev Sw33 : FSh := ⟨[.val (.agg [.ints .u64 4]), .val (.agg [.ints .u64 4]), .val (.agg [.ints .u64 4])], [.val (.agg [.ints .u64 4]), .val (.c (.int .i64))], [.cell 6 24, .tmp 7]⟩
noncomputable def cw33 : Ctx Go.Proofs.Try.prog := ⟨wtab, ofL Ew7, wtabOk, Ew7_ok, wdep, word⟩
theorem eqw33 : ∀ x : psT Sw33.ps, exec wtab (ofL Ew7) 22 bodyw33 annw33 (fin wtab Sw33) (argSt Sw33 x) = Fw33 x := by
  rintro ⟨a0, a1, a2⟩
  kernel_rfl
theorem callsw33 : CallsAs Go.Proofs.Try.prog cw33 33 Sw33 Fw33 := by
  refine fun_calls (fn := Go.Proofs.Try.f33) (c := bodyw33) (ann := annw33) cw33 (by kernel_rfl) (by kernel_rfl) (by kernel_rfl) (by decide) (annOk_of_cuts ?_) eqw33
  intro x hx
  exact absurd hx (by show x ∉ ([] : List (List Nat × LEnt)); simp)

theorem entw33 : EntOk Go.Proofs.Try.prog 33 (funEnt Sw33 Fw33) := fun_ok cw33 (fn := Go.Proofs.Try.f33) (c := bodyw33) (by kernel_rfl) (by kernel_rfl) (by kernel_rfl) rfl rfl (by decide) callsw33
noncomputable def Ew33 : List (Nat × Ent) := (33, funEnt Sw33 Fw33) :: Ew7
theorem Ew33_ok : EntsOk Go.Proofs.Try.prog (ofL Ew33) := .cons entw33 Ew7_ok

/-! ### barbican/barbicanref04.Mul -/
noncomputable def bodyw34 : Code := (Go.Proofs.Try.f34.body).getD .skip
abbrev lw34_1 : Lay := ⟨[(4, .ptr 4 0 8), (5, .full 17), (6, .full 19), (7, .full 20)], [.env 8 (.c (.int .i64)), .env 9 (.c (.int .i64)), .reg 4 (.cells [.ints .u64 8]), .reg 17 (.row 59 .u32), .reg 19 (.row 59 .u32), .reg 20 (.row 22 .u64)], [(4, 4), (17, 5), (19, 6), (20, 7)]⟩
abbrev ow34_1 : List (AExit × Lay) := [(.exit 2, ⟨[(4, .ptr 4 0 8), (5, .full 17), (6, .full 19), (7, .full 20)], [.env 8 (.c (.int .i64)), .reg 4 (.cells [.ints .u64 8]), .reg 17 (.row 59 .u32), .reg 19 (.row 59 .u32), .reg 20 (.row 22 .u64)], [(4, 4), (17, 5), (19, 6), (20, 7)]⟩)]
noncomputable def stepw34_1 : Int × Int × (Nat → Int) × List Int × List Int × List Int → Option ((Int × Int × (Nat → Int) × List Int × List Int × List Int) ⊕ ((Int × (Nat → Int) × List Int × List Int × List Int)))
  | (t8, t9, r4, r17, r19, r20) =>
    if (decide (t9 < 16)) = true then
      if (0 : Int) ≤ (IntKind.i64.wrap (t8 + t9)) ∧ (IntKind.i64.wrap (t8 + t9)) < (r20.length : Int) then
        if (0 : Int) ≤ t8 ∧ t8 < (r17.length : Int) then
          if (0 : Int) ≤ t9 ∧ t9 < (r19.length : Int) then
            let x3 : Int := (IntKind.u64.wrap ((IntKind.u64.wrap (r17.getD t8.toNat 0)) * (IntKind.u64.wrap (r19.getD t9.toNat 0))))
            let x4 : Int := (IntKind.u64.wrap ((r20.getD (IntKind.i64.wrap (t8 + t9)).toNat 0) + x3))
            if (0 : Int) ≤ (IntKind.i64.wrap (t8 + t9)) ∧ (IntKind.i64.wrap (t8 + t9)) < (r20.length : Int) then
              some (.inl (t8, (IntKind.i64.wrap (t9 + 1)), r4, r17, r19, (r20.set (IntKind.i64.wrap (t8 + t9)).toNat x4)))
            else none
          else none
        else none
      else none
    else
      some (.inr (t8, r4, r17, r19, r20))

noncomputable def annw34_1 : Ann := .none
abbrev lw34_0 : Lay := ⟨[(4, .ptr 4 0 8), (5, .full 17), (6, .full 19), (7, .full 20)], [.env 8 (.c (.int .i64)), .reg 4 (.cells [.ints .u64 8]), .reg 17 (.row 59 .u32), .reg 19 (.row 59 .u32), .reg 20 (.row 22 .u64)], [(4, 4), (17, 5), (19, 6), (20, 7)]⟩
abbrev ow34_0 : List (AExit × Lay) := [(.exit 0, ⟨[(4, .ptr 4 0 8), (7, .full 20)], [.reg 4 (.cells [.ints .u64 8]), .reg 20 (.row 22 .u64)], [(4, 4), (20, 7)]⟩)]
noncomputable def stepw34_0 : Int × (Nat → Int) × List Int × List Int × List Int → Option ((Int × (Nat → Int) × List Int × List Int × List Int) ⊕ (((Nat → Int) × List Int)))
  | (t8, r4, r17, r19, r20) =>
    if (decide (t8 < 16)) = true then
      (loopO stepw34_1 (t8, 0, r4, r17, r19, r20)).bind fun (z5, z6, z7, z8, z9) =>
        some (.inl ((IntKind.i64.wrap (z5 + 1)), z6, z7, z8, z9))
    else
      some (.inr (r4, r20))

noncomputable def annw34_0 : Ann := (.seq .none (.seq (.seq (.seq .none (.seq (.cut (cutEnt lw34_1 ow34_1 (loopO stepw34_1))) .none)) .none) .none))
abbrev lw34_2 : Lay := ⟨[(4, .ptr 4 0 8), (7, .full 20), (10, .full 52)], [.env 11 (.c (.int .u64)), .env 12 (.c (.int .i64)), .reg 4 (.cells [.ints .u64 8]), .reg 20 (.row 22 .u64), .reg 52 (.row 59 .u32)], [(4, 4), (20, 7), (52, 10)]⟩
abbrev ow34_2 : List (AExit × Lay) := [(.exit 4, ⟨[(4, .ptr 4 0 8), (10, .full 52)], [.reg 4 (.cells [.ints .u64 8]), .reg 52 (.row 59 .u32)], [(4, 4), (52, 10)]⟩)]
noncomputable def stepw34_2 : Int × Int × (Nat → Int) × List Int × List Int → Option ((Int × Int × (Nat → Int) × List Int × List Int) ⊕ (((Nat → Int) × List Int)))
  | (t11, t12, r4, r20, r52) =>
    if (decide (t12 < 32)) = true then
      if (0 : Int) ≤ t12 ∧ t12 < (r20.length : Int) then
        let x12 : Int := ((IntKind.u64.wrap ((r20.getD t12.toNat 0) + t11)).tmod 65536)
        if (0 : Int) ≤ t12 ∧ t12 < (r52.length : Int) then
          let x13 : Int := (IntKind.u64.wrap ((IntKind.u64.wrap ((r20.getD t12.toNat 0) + t11)).tdiv 65536))
          some (.inl (x13, (IntKind.i64.wrap (t12 + 1)), r4, r20, (r52.set t12.toNat (IntKind.u32.wrap x12))))
        else none
      else none
    else
      some (.inr (r4, r52))

noncomputable def annw34_2 : Ann := .none
abbrev lw34_3 : Lay := ⟨[(4, .ptr 4 0 8), (10, .full 52), (14, .ptr 14 0 8)], [.env 15 (.c (.int .i64)), .reg 4 (.cells [.ints .u64 8]), .reg 52 (.row 59 .u32), .reg 14 (.cells [.ints .u64 8])], [(4, 4), (52, 10), (14, 14)]⟩
abbrev ow34_3 : List (AExit × Lay) := [(.exit 6, ⟨[(4, .ptr 4 0 8), (14, .ptr 14 0 8)], [.reg 4 (.cells [.ints .u64 8]), .reg 14 (.cells [.ints .u64 8])], [(4, 4), (14, 14)]⟩)]
noncomputable def stepw34_3 : Int × (Nat → Int) × List Int × (Nat → Int) → Option ((Int × (Nat → Int) × List Int × (Nat → Int)) ⊕ (((Nat → Int) × (Nat → Int))))
  | (t15, r4, r52, r14) =>
    if (decide (t15 < 8)) = true then
      (Fw46 (r52, t15)).bind fun y16 =>
        if (0 : Int) ≤ t15 ∧ t15 < ((8 : Int) : Int) then
          some (.inl ((IntKind.i64.wrap (t15 + 1)), r4, r52, (upd r14 t15.toNat y16)))
        else none
    else
      some (.inr (r4, r14))

noncomputable def annw34_3 : Ann := .none
noncomputable def Fw34 : (Nat → Int) × (Nat → Int) → Option ((Nat → Int))
  | (a0, a1) =>
    (Fw38 a0).bind fun y1 =>
      (Fw38 a1).bind fun y2 =>
        if 0 ≤ (32 : Int) ∧ (32 : Int) ≤ 32 ∧ okBytes 32 8 then
          (loopO stepw34_0 (0, (fun _ => 0), y1, y2, (List.replicate 32 (0 : Int)))).bind fun (z10, z11) =>
            if 0 ≤ (32 : Int) ∧ (32 : Int) ≤ 32 ∧ okBytes 32 4 then
              (loopO stepw34_2 (0, 0, z10, z11, (List.replicate 32 (0 : Int)))).bind fun (z14, z15) =>
                (loopO stepw34_3 (0, z14, z15, (fun _ => 0))).bind fun (z17, z18) =>
                  some z18
            else none
        else none

noncomputable def annw34 : Ann := (.seq .none (.seq .none (.seq .none (.seq .none (.seq (.seq .none (.seq (.cut (cutEnt lw34_0 ow34_0 (loopO stepw34_0))) .none)) (.seq .none (.seq .none (.seq (.seq .none (.seq (.cut (cutEnt lw34_2 ow34_2 (loopO stepw34_2))) .none)) (.seq .none (.seq (.seq .none (.seq (.cut (cutEnt lw34_3 ow34_3 (loopO stepw34_3))) .none)) .none))))))))))
abbrev Sw34 : FSh := ⟨[.val (.agg [.ints .u64 4]), .val (.agg [.ints .u64 4])], [.val (.agg [.ints .u64 8])], [.cell 4 45]⟩
noncomputable def cw34 : Ctx Go.Proofs.Try.prog := ⟨wtab, ofL Ew33, wtabOk, Ew33_ok, wdep, word⟩
theorem eqw34_1 : ∀ s : lw34_1.T, exec wtab (ofL Ew33) 81 (Code.at' [1, 1, 1, 1, 0, 1, 0, 0, 1, 0, 0, 1, 0, 0] bodyw34) annw34_1 (fun e st => loopEnd (l := lw34_1) (outs := ow34_1) e st) (lw34_1.enc s) = stepw34_1 s := by
  rintro ⟨t8, t9, r4, r17, r19, r20⟩
  kernel_rfl
theorem okw34_1 : LOk Go.Proofs.Try.prog 81 (cutEnt lw34_1 ow34_1 (loopO stepw34_1)) (Code.at' [1, 1, 1, 1, 0, 1, 0, 0, 1, 0, 0, 1, 0] bodyw34) := by
  have e : Code.at' [1, 1, 1, 1, 0, 1, 0, 0, 1, 0, 0, 1, 0] bodyw34 = .loop (Code.at' [1, 1, 1, 1, 0, 1, 0, 0, 1, 0, 0, 1, 0, 0] bodyw34) := by kernel_rfl
  rw [e]
  refine loop_ok cw34 81 rfl rfl (annOk_of_cuts ?_) eqw34_1
  intro x hx
  exact absurd hx (by show x ∉ ([] : List (List Nat × LEnt)); simp)

theorem eqw34_0 : ∀ s : lw34_0.T, exec wtab (ofL Ew33) 81 (Code.at' [1, 1, 1, 1, 0, 1, 0, 0] bodyw34) annw34_0 (fun e st => loopEnd (l := lw34_0) (outs := ow34_0) e st) (lw34_0.enc s) = stepw34_0 s := by
  rintro ⟨t8, r4, r17, r19, r20⟩
  kernel_rfl
theorem okw34_0 : LOk Go.Proofs.Try.prog 81 (cutEnt lw34_0 ow34_0 (loopO stepw34_0)) (Code.at' [1, 1, 1, 1, 0, 1, 0] bodyw34) := by
  have e : Code.at' [1, 1, 1, 1, 0, 1, 0] bodyw34 = .loop (Code.at' [1, 1, 1, 1, 0, 1, 0, 0] bodyw34) := by kernel_rfl
  rw [e]
  refine loop_ok cw34 81 rfl rfl (annOk_of_cuts ?_) eqw34_0
  have hc : Ann.cuts annw34_0 = [([1, 0, 0, 1, 0], (cutEnt lw34_1 ow34_1 (loopO stepw34_1)))] := by kernel_rfl
  rw [hc]
  intro x hx
  simp only [List.mem_cons, List.not_mem_nil, or_false] at hx
  rcases hx with rfl
  · have e : Code.at' [1, 0, 0, 1, 0] (Code.at' [1, 1, 1, 1, 0, 1, 0, 0] bodyw34) = Code.at' [1, 1, 1, 1, 0, 1, 0, 0, 1, 0, 0, 1, 0] bodyw34 := by kernel_rfl
    rw [e]; exact okw34_1

theorem eqw34_2 : ∀ s : lw34_2.T, exec wtab (ofL Ew33) 81 (Code.at' [1, 1, 1, 1, 1, 1, 1, 0, 1, 0, 0] bodyw34) annw34_2 (fun e st => loopEnd (l := lw34_2) (outs := ow34_2) e st) (lw34_2.enc s) = stepw34_2 s := by
  rintro ⟨t11, t12, r4, r20, r52⟩
  kernel_rfl
theorem okw34_2 : LOk Go.Proofs.Try.prog 81 (cutEnt lw34_2 ow34_2 (loopO stepw34_2)) (Code.at' [1, 1, 1, 1, 1, 1, 1, 0, 1, 0] bodyw34) := by
  have e : Code.at' [1, 1, 1, 1, 1, 1, 1, 0, 1, 0] bodyw34 = .loop (Code.at' [1, 1, 1, 1, 1, 1, 1, 0, 1, 0, 0] bodyw34) := by kernel_rfl
  rw [e]
  refine loop_ok cw34 81 rfl rfl (annOk_of_cuts ?_) eqw34_2
  intro x hx
  exact absurd hx (by show x ∉ ([] : List (List Nat × LEnt)); simp)

theorem eqw34_3 : ∀ s : lw34_3.T, exec wtab (ofL Ew33) 81 (Code.at' [1, 1, 1, 1, 1, 1, 1, 1, 1, 0, 1, 0, 0] bodyw34) annw34_3 (fun e st => loopEnd (l := lw34_3) (outs := ow34_3) e st) (lw34_3.enc s) = stepw34_3 s := by
  rintro ⟨t15, r4, r52, r14⟩
  kernel_rfl
theorem okw34_3 : LOk Go.Proofs.Try.prog 81 (cutEnt lw34_3 ow34_3 (loopO stepw34_3)) (Code.at' [1, 1, 1, 1, 1, 1, 1, 1, 1, 0, 1, 0] bodyw34) := by
  have e : Code.at' [1, 1, 1, 1, 1, 1, 1, 1, 1, 0, 1, 0] bodyw34 = .loop (Code.at' [1, 1, 1, 1, 1, 1, 1, 1, 1, 0, 1, 0, 0] bodyw34) := by kernel_rfl
  rw [e]
  refine loop_ok cw34 81 rfl rfl (annOk_of_cuts ?_) eqw34_3
  intro x hx
  exact absurd hx (by show x ∉ ([] : List (List Nat × LEnt)); simp)

theorem eqw34 : ∀ x : psT Sw34.ps, exec wtab (ofL Ew33) 81 bodyw34 annw34 (fin wtab Sw34) (argSt Sw34 x) = Fw34 x := by
  rintro ⟨a0, a1⟩
  kernel_rfl
theorem callsw34 : CallsAs Go.Proofs.Try.prog cw34 34 Sw34 Fw34 := by
  refine fun_calls (fn := Go.Proofs.Try.f34) (c := bodyw34) (ann := annw34) cw34 (by kernel_rfl) (by kernel_rfl) (by kernel_rfl) (by decide) (annOk_of_cuts ?_) eqw34
  have hc : Ann.cuts annw34 = [([1, 1, 1, 1, 0, 1, 0], (cutEnt lw34_0 ow34_0 (loopO stepw34_0))), ([1, 1, 1, 1, 1, 1, 1, 0, 1, 0], (cutEnt lw34_2 ow34_2 (loopO stepw34_2))), ([1, 1, 1, 1, 1, 1, 1, 1, 1, 0, 1, 0], (cutEnt lw34_3 ow34_3 (loopO stepw34_3)))] := by kernel_rfl
  rw [hc]
  intro x hx
  simp only [List.mem_cons, List.not_mem_nil, or_false] at hx
  rcases hx with rfl | rfl | rfl
  · have e : Code.at' [1, 1, 1, 1, 0, 1, 0] bodyw34 = Code.at' [1, 1, 1, 1, 0, 1, 0] bodyw34 := by kernel_rfl
    rw [e]; exact okw34_0
  · have e : Code.at' [1, 1, 1, 1, 1, 1, 1, 0, 1, 0] bodyw34 = Code.at' [1, 1, 1, 1, 1, 1, 1, 0, 1, 0] bodyw34 := by kernel_rfl
    rw [e]; exact okw34_2
  · have e : Code.at' [1, 1, 1, 1, 1, 1, 1, 1, 1, 0, 1, 0] bodyw34 = Code.at' [1, 1, 1, 1, 1, 1, 1, 1, 1, 0, 1, 0] bodyw34 := by kernel_rfl
    rw [e]; exact okw34_3

theorem entw34 : EntOk Go.Proofs.Try.prog 34 (funEnt Sw34 Fw34) := fun_ok cw34 (fn := Go.Proofs.Try.f34) (c := bodyw34) (by kernel_rfl) (by kernel_rfl) (by kernel_rfl) rfl rfl (by decide) callsw34
noncomputable def Ew34 : List (Nat × Ent) := (34, funEnt Sw34 Fw34) :: Ew33
theorem Ew34_ok : EntsOk Go.Proofs.Try.prog (ofL Ew34) := .cons entw34 Ew33_ok

/-! ### barbican/barbicanref04.DivRem -/
noncomputable def bodyw35 : Code := (Go.Proofs.Try.f35.body).getD .skip
abbrev lw35_2 : Lay := ⟨[(2, .ptr 2 0 8), (3, .ptr 3 0 4), (4, .ptr 4 0 8), (5, .ptr 5 0 4), (6, .ptr 6 0 8), (7, .ptr 7 0 4), (9, .full 23)], [.env 8 (.c (.int .i64)), .env 10 (.c (.int .i64)), .env 11 (.c (.int .u32)), .reg 2 (.cells [.ints .u64 8]), .reg 3 (.cells [.ints .u64 4]), .reg 4 (.cells [.ints .u64 8]), .reg 5 (.cells [.ints .u64 4]), .reg 6 (.cells [.ints .u64 8]), .reg 7 (.cells [.ints .u64 4]), .reg 23 (.row 59 .u32)], [(2, 2), (3, 3), (4, 4), (5, 5), (6, 6), (7, 7), (23, 9)]⟩
abbrev ow35_2 : List (AExit × Lay) := [(.exit 4, ⟨[(2, .ptr 2 0 8), (3, .ptr 3 0 4), (4, .ptr 4 0 8), (5, .ptr 5 0 4), (6, .ptr 6 0 8), (7, .ptr 7 0 4), (9, .full 23)], [.env 8 (.c (.int .i64)), .env 10 (.c (.int .i64)), .reg 2 (.cells [.ints .u64 8]), .reg 3 (.cells [.ints .u64 4]), .reg 4 (.cells [.ints .u64 8]), .reg 5 (.cells [.ints .u64 4]), .reg 6 (.cells [.ints .u64 8]), .reg 7 (.cells [.ints .u64 4]), .reg 23 (.row 59 .u32)], [(2, 2), (3, 3), (4, 4), (5, 5), (6, 6), (7, 7), (23, 9)]⟩)]
noncomputable def stepw35_2 : Int × Int × Int × (Nat → Int) × (Nat → Int) × (Nat → Int) × (Nat → Int) × (Nat → Int) × (Nat → Int) × List Int → Option ((Int × Int × Int × (Nat → Int) × (Nat → Int) × (Nat → Int) × (Nat → Int) × (Nat → Int) × (Nat → Int) × List Int) ⊕ ((Int × Int × (Nat → Int) × (Nat → Int) × (Nat → Int) × (Nat → Int) × (Nat → Int) × (Nat → Int) × List Int)))
  | (t8, t10, t11, r2, r3, r4, r5, r6, r7, r23) =>
    if (decide (t11 > 0)) = true then
      if (0 : Int) ≤ t10 ∧ t10 < (r23.length : Int) then
        if t11 ≠ 0 then
          let x2 : Int := ((IntKind.u32.wrap ((r23.getD t10.toNat 0).tdiv t11)).tmod 2)
          (Fw44 (r7, (IntKind.i64.wrap x2), r3)).bind fun (y3, y4) =>
            if (0 : Int) ≤ t8 ∧ t8 < ((8 : Int) : Int) then
              if (0 : Int) ≤ t8 ∧ t8 < ((8 : Int) : Int) then
                if y4 = true then
                  if (0 : Int) ≤ t8 ∧ t8 < ((8 : Int) : Int) then
                    let x5 : Int := ((upd r6 t8.toNat (IntKind.u64.wrap (2 * (r6 t8.toNat)))) t8.toNat)
                    if (0 : Int) ≤ t8 ∧ t8 < ((8 : Int) : Int) then
                      let f6 : Nat → Int := (upd (upd r6 t8.toNat (IntKind.u64.wrap (2 * (r6 t8.toNat)))) t8.toNat (IntKind.u64.wrap (x5 + 1)))
                      some (.inl (t8, t10, (IntKind.u32.wrap (t11.tdiv 2)), r2, r3, r4, r5, f6, y3, r23))
                    else none
                  else none
                else
                  some (.inl (t8, t10, (IntKind.u32.wrap (t11.tdiv 2)), r2, r3, r4, r5, (upd r6 t8.toNat (IntKind.u64.wrap (2 * (r6 t8.toNat)))), y3, r23))
              else none
            else none
        else none
      else none
    else
      some (.inr (t8, t10, r2, r3, r4, r5, r6, r7, r23))

noncomputable def annw35_2 : Ann := .none
abbrev lw35_1 : Lay := ⟨[(2, .ptr 2 0 8), (3, .ptr 3 0 4), (4, .ptr 4 0 8), (5, .ptr 5 0 4), (6, .ptr 6 0 8), (7, .ptr 7 0 4), (9, .full 23)], [.env 8 (.c (.int .i64)), .env 10 (.c (.int .i64)), .reg 2 (.cells [.ints .u64 8]), .reg 3 (.cells [.ints .u64 4]), .reg 4 (.cells [.ints .u64 8]), .reg 5 (.cells [.ints .u64 4]), .reg 6 (.cells [.ints .u64 8]), .reg 7 (.cells [.ints .u64 4]), .reg 23 (.row 59 .u32)], [(2, 2), (3, 3), (4, 4), (5, 5), (6, 6), (7, 7), (23, 9)]⟩
abbrev ow35_1 : List (AExit × Lay) := [(.exit 2, ⟨[(2, .ptr 2 0 8), (3, .ptr 3 0 4), (4, .ptr 4 0 8), (5, .ptr 5 0 4), (6, .ptr 6 0 8), (7, .ptr 7 0 4)], [.env 8 (.c (.int .i64)), .reg 2 (.cells [.ints .u64 8]), .reg 3 (.cells [.ints .u64 4]), .reg 4 (.cells [.ints .u64 8]), .reg 5 (.cells [.ints .u64 4]), .reg 6 (.cells [.ints .u64 8]), .reg 7 (.cells [.ints .u64 4])], [(2, 2), (3, 3), (4, 4), (5, 5), (6, 6), (7, 7)]⟩)]
noncomputable def stepw35_1 : Int × Int × (Nat → Int) × (Nat → Int) × (Nat → Int) × (Nat → Int) × (Nat → Int) × (Nat → Int) × List Int → Option ((Int × Int × (Nat → Int) × (Nat → Int) × (Nat → Int) × (Nat → Int) × (Nat → Int) × (Nat → Int) × List Int) ⊕ ((Int × (Nat → Int) × (Nat → Int) × (Nat → Int) × (Nat → Int) × (Nat → Int) × (Nat → Int))))
  | (t8, t10, r2, r3, r4, r5, r6, r7, r23) =>
    if (decide (t10 ≥ 0)) = true then
      (loopO stepw35_2 (t8, t10, 32768, r2, r3, r4, r5, r6, r7, r23)).bind fun (z7, z8, z9, z10, z11, z12, z13, z14, z15) =>
        some (.inl (z7, (IntKind.i64.wrap (z8 - 1)), z9, z10, z11, z12, z13, z14, z15))
    else
      some (.inr (t8, r2, r3, r4, r5, r6, r7))

noncomputable def annw35_1 : Ann := (.seq .none (.seq (.seq (.seq .none (.seq (.cut (cutEnt lw35_2 ow35_2 (loopO stepw35_2))) .none)) .none) .none))
abbrev lw35_0 : Lay := ⟨[(2, .ptr 2 0 8), (3, .ptr 3 0 4), (4, .ptr 4 0 8), (5, .ptr 5 0 4), (6, .ptr 6 0 8), (7, .ptr 7 0 4)], [.env 8 (.c (.int .i64)), .reg 2 (.cells [.ints .u64 8]), .reg 3 (.cells [.ints .u64 4]), .reg 4 (.cells [.ints .u64 8]), .reg 5 (.cells [.ints .u64 4]), .reg 6 (.cells [.ints .u64 8]), .reg 7 (.cells [.ints .u64 4])], [(2, 2), (3, 3), (4, 4), (5, 5), (6, 6), (7, 7)]⟩
abbrev ow35_0 : List (AExit × Lay) := [(.exit 0, ⟨[(4, .ptr 4 0 8), (5, .ptr 5 0 4), (6, .ptr 6 0 8), (7, .ptr 7 0 4)], [.reg 4 (.cells [.ints .u64 8]), .reg 5 (.cells [.ints .u64 4]), .reg 6 (.cells [.ints .u64 8]), .reg 7 (.cells [.ints .u64 4])], [(4, 4), (5, 5), (6, 6), (7, 7)]⟩)]
noncomputable def stepw35_0 : Int × (Nat → Int) × (Nat → Int) × (Nat → Int) × (Nat → Int) × (Nat → Int) × (Nat → Int) → Option ((Int × (Nat → Int) × (Nat → Int) × (Nat → Int) × (Nat → Int) × (Nat → Int) × (Nat → Int)) ⊕ (((Nat → Int) × (Nat → Int) × (Nat → Int) × (Nat → Int))))
  | (t8, r2, r3, r4, r5, r6, r7) =>
    if (decide (t8 ≥ 0)) = true then
      if (0 : Int) ≤ t8 ∧ t8 < ((8 : Int) : Int) then
        (Fw47 ((List.replicate 1 (0 : Int)).set 0 (r2 t8.toNat))).bind fun y1 =>
          (loopO stepw35_1 (t8, 3, r2, r3, r4, r5, r6, r7, y1)).bind fun (z16, z17, z18, z19, z20, z21, z22) =>
            some (.inl ((IntKind.i64.wrap (z16 - 1)), z17, z18, z19, z20, z21, z22))
      else none
    else
      some (.inr (r4, r5, r6, r7))

noncomputable def annw35_0 : Ann := (.seq .none (.seq (.seq (.seq .none (.seq .none (.seq (.cut (cutEnt lw35_1 ow35_1 (loopO stepw35_1))) .none))) .none) .none))
noncomputable def Fw35 : (Nat → Int) × (Nat → Int) → Option ((Nat → Int) × (Nat → Int))
  | (a0, a1) =>
    (loopO stepw35_0 (7, a0, a1, (fun _ => 0), (fun _ => 0), (fun _ => 0), (fun _ => 0))).bind fun (z23, z24, z25, z26) =>
      some (z25, z26)

noncomputable def annw35 : Ann := (.seq .none (.seq .none (.seq .none (.seq (.seq .none (.seq (.cut (cutEnt lw35_0 ow35_0 (loopO stepw35_0))) .none)) .none))))
abbrev Sw35 : FSh := ⟨[.val (.agg [.ints .u64 8]), .val (.agg [.ints .u64 4])], [.val (.agg [.ints .u64 8]), .val (.agg [.ints .u64 4])], [.cell 4 45, .cell 5 24]⟩
noncomputable def cw35 : Ctx Go.Proofs.Try.prog := ⟨wtab, ofL Ew34, wtabOk, Ew34_ok, wdep, word⟩
theorem eqw35_2 : ∀ s : lw35_2.T, exec wtab (ofL Ew34) 63 (Code.at' [1, 1, 1, 0, 1, 0, 0, 1, 0, 0, 1, 1, 0, 0, 1, 0, 0, 1, 0, 0] bodyw35) annw35_2 (fun e st => loopEnd (l := lw35_2) (outs := ow35_2) e st) (lw35_2.enc s) = stepw35_2 s := by
  rintro ⟨t8, t10, t11, r2, r3, r4, r5, r6, r7, r23⟩
  kernel_rfl
theorem okw35_2 : LOk Go.Proofs.Try.prog 63 (cutEnt lw35_2 ow35_2 (loopO stepw35_2)) (Code.at' [1, 1, 1, 0, 1, 0, 0, 1, 0, 0, 1, 1, 0, 0, 1, 0, 0, 1, 0] bodyw35) := by
  have e : Code.at' [1, 1, 1, 0, 1, 0, 0, 1, 0, 0, 1, 1, 0, 0, 1, 0, 0, 1, 0] bodyw35 = .loop (Code.at' [1, 1, 1, 0, 1, 0, 0, 1, 0, 0, 1, 1, 0, 0, 1, 0, 0, 1, 0, 0] bodyw35) := by kernel_rfl
  rw [e]
  refine loop_ok cw35 63 rfl rfl (annOk_of_cuts ?_) eqw35_2
  intro x hx
  exact absurd hx (by show x ∉ ([] : List (List Nat × LEnt)); simp)

theorem eqw35_1 : ∀ s : lw35_1.T, exec wtab (ofL Ew34) 63 (Code.at' [1, 1, 1, 0, 1, 0, 0, 1, 0, 0, 1, 1, 0, 0] bodyw35) annw35_1 (fun e st => loopEnd (l := lw35_1) (outs := ow35_1) e st) (lw35_1.enc s) = stepw35_1 s := by
  rintro ⟨t8, t10, r2, r3, r4, r5, r6, r7, r23⟩
  kernel_rfl
theorem okw35_1 : LOk Go.Proofs.Try.prog 63 (cutEnt lw35_1 ow35_1 (loopO stepw35_1)) (Code.at' [1, 1, 1, 0, 1, 0, 0, 1, 0, 0, 1, 1, 0] bodyw35) := by
  have e : Code.at' [1, 1, 1, 0, 1, 0, 0, 1, 0, 0, 1, 1, 0] bodyw35 = .loop (Code.at' [1, 1, 1, 0, 1, 0, 0, 1, 0, 0, 1, 1, 0, 0] bodyw35) := by kernel_rfl
  rw [e]
  refine loop_ok cw35 63 rfl rfl (annOk_of_cuts ?_) eqw35_1
  have hc : Ann.cuts annw35_1 = [([1, 0, 0, 1, 0], (cutEnt lw35_2 ow35_2 (loopO stepw35_2)))] := by kernel_rfl
  rw [hc]
  intro x hx
  simp only [List.mem_cons, List.not_mem_nil, or_false] at hx
  rcases hx with rfl
  · have e : Code.at' [1, 0, 0, 1, 0] (Code.at' [1, 1, 1, 0, 1, 0, 0, 1, 0, 0, 1, 1, 0, 0] bodyw35) = Code.at' [1, 1, 1, 0, 1, 0, 0, 1, 0, 0, 1, 1, 0, 0, 1, 0, 0, 1, 0] bodyw35 := by kernel_rfl
    rw [e]; exact okw35_2

theorem eqw35_0 : ∀ s : lw35_0.T, exec wtab (ofL Ew34) 63 (Code.at' [1, 1, 1, 0, 1, 0, 0] bodyw35) annw35_0 (fun e st => loopEnd (l := lw35_0) (outs := ow35_0) e st) (lw35_0.enc s) = stepw35_0 s := by
  rintro ⟨t8, r2, r3, r4, r5, r6, r7⟩
  kernel_rfl
theorem okw35_0 : LOk Go.Proofs.Try.prog 63 (cutEnt lw35_0 ow35_0 (loopO stepw35_0)) (Code.at' [1, 1, 1, 0, 1, 0] bodyw35) := by
  have e : Code.at' [1, 1, 1, 0, 1, 0] bodyw35 = .loop (Code.at' [1, 1, 1, 0, 1, 0, 0] bodyw35) := by kernel_rfl
  rw [e]
  refine loop_ok cw35 63 rfl rfl (annOk_of_cuts ?_) eqw35_0
  have hc : Ann.cuts annw35_0 = [([1, 0, 0, 1, 1, 0], (cutEnt lw35_1 ow35_1 (loopO stepw35_1)))] := by kernel_rfl
  rw [hc]
  intro x hx
  simp only [List.mem_cons, List.not_mem_nil, or_false] at hx
  rcases hx with rfl
  · have e : Code.at' [1, 0, 0, 1, 1, 0] (Code.at' [1, 1, 1, 0, 1, 0, 0] bodyw35) = Code.at' [1, 1, 1, 0, 1, 0, 0, 1, 0, 0, 1, 1, 0] bodyw35 := by kernel_rfl
    rw [e]; exact okw35_1

theorem eqw35 : ∀ x : psT Sw35.ps, exec wtab (ofL Ew34) 63 bodyw35 annw35 (fin wtab Sw35) (argSt Sw35 x) = Fw35 x := by
  rintro ⟨a0, a1⟩
  kernel_rfl
theorem callsw35 : CallsAs Go.Proofs.Try.prog cw35 35 Sw35 Fw35 := by
  refine fun_calls (fn := Go.Proofs.Try.f35) (c := bodyw35) (ann := annw35) cw35 (by kernel_rfl) (by kernel_rfl) (by kernel_rfl) (by decide) (annOk_of_cuts ?_) eqw35
  have hc : Ann.cuts annw35 = [([1, 1, 1, 0, 1, 0], (cutEnt lw35_0 ow35_0 (loopO stepw35_0)))] := by kernel_rfl
  rw [hc]
  intro x hx
  simp only [List.mem_cons, List.not_mem_nil, or_false] at hx
  rcases hx with rfl
  · have e : Code.at' [1, 1, 1, 0, 1, 0] bodyw35 = Code.at' [1, 1, 1, 0, 1, 0] bodyw35 := by kernel_rfl
    rw [e]; exact okw35_0

theorem entw35 : EntOk Go.Proofs.Try.prog 35 (funEnt Sw35 Fw35) := fun_ok cw35 (fn := Go.Proofs.Try.f35) (c := bodyw35) (by kernel_rfl) (by kernel_rfl) (by kernel_rfl) rfl rfl (by decide) callsw35
noncomputable def Ew35 : List (Nat × Ent) := (35, funEnt Sw35 Fw35) :: Ew34
theorem Ew35_ok : EntsOk Go.Proofs.Try.prog (ofL Ew35) := .cons entw35 Ew34_ok

/-! ### barbican/barbicanlaw04.WideProducts -/
noncomputable def bodyw8 : Code := (Go.Proofs.Try.f8.body).getD .skip
noncomputable def Fw8 : (Nat → Int) × (Nat → Int) × (Nat → Int) → Option (Bool)
  | (a0, a1, a2) =>
    (Fw9 ()).bind fun y1 =>
      (Fw30 (a0, a1)).bind fun y2 =>
        (Fw32 (y2, a2)).bind fun (y3, y4, y5) =>
          (Fw33 (a0, a1, a2)).bind fun (y6, y7) =>
            if (!y1) = false then
              (Fw34 (a0, a1)).bind fun y8 =>
                if (!(arrEq 8 y2 y8)) = true then
                  some false
                else
                  if (arrEq 4 a2 (fun _ => 0)) = true then
                    if (y5 == 42) = true then
                      if (y7 == 42) = true then
                        if (arrEq 8 y3 (fun _ => 0)) = true then
                          if (arrEq 4 y4 (fun _ => 0)) = true then
                            some (arrEq 4 y6 (fun _ => 0))
                          else
                            some false
                        else
                          some false
                      else
                        some false
                    else
                      some false
                  else
                    (Fw35 (y2, a2)).bind fun (y9, y10) =>
                      if (y5 == 0) = true then
                        if (y7 == 0) = true then
                          if (arrEq 8 y3 y9) = true then
                            if (arrEq 4 y4 y10) = true then
                              some (arrEq 4 y6 y10)
                            else
                              some false
                          else
                            some false
                        else
                          some false
                      else
                        some false
            else
              some false

noncomputable def annw8 : Ann := .none
abbrev Sw8 : FSh := ⟨[.val (.agg [.ints .u64 4]), .val (.agg [.ints .u64 4]), .val (.agg [.ints .u64 4])], [.val (.c (.bool))], [.tmp 6]⟩
noncomputable def cw8 : Ctx Go.Proofs.Try.prog := ⟨wtab, ofL Ew35, wtabOk, Ew35_ok, wdep, word⟩
theorem eqw8 : ∀ x : psT Sw8.ps, exec wtab (ofL Ew35) 94 bodyw8 annw8 (fin wtab Sw8) (argSt Sw8 x) = Fw8 x := by
  rintro ⟨a0, a1, a2⟩
  kernel_rfl
theorem callsw8 : CallsAs Go.Proofs.Try.prog cw8 8 Sw8 Fw8 := by
  refine fun_calls (fn := Go.Proofs.Try.f8) (c := bodyw8) (ann := annw8) cw8 (by kernel_rfl) (by kernel_rfl) (by kernel_rfl) (by decide) (annOk_of_cuts ?_) eqw8
  intro x hx
  exact absurd hx (by show x ∉ ([] : List (List Nat × LEnt)); simp)

theorem entw8 : EntOk Go.Proofs.Try.prog 8 (funEnt Sw8 Fw8) := fun_ok cw8 (fn := Go.Proofs.Try.f8) (c := bodyw8) (by kernel_rfl) (by kernel_rfl) (by kernel_rfl) rfl rfl (by decide) callsw8
noncomputable def Ew8 : List (Nat × Ent) := (8, funEnt Sw8 Fw8) :: Ew35
theorem Ew8_ok : EntsOk Go.Proofs.Try.prog (ofL Ew8) := .cons entw8 Ew35_ok
end Go.Abs
