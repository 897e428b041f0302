import Derived.Test.YtpfcdkkbiemmpaaAbsTabL
import Derived.Test.YtpfcdkkbiemmpaaChecked
import Derived.KernelRfl
set_option linter.unusedVariables false
set_option maxRecDepth 100000
namespace Go.Abs
def btab : Tab := [
  (2, ⟨.int .i64, 1, 8, [.int .i64 0]⟩),
  (3, ⟨.int .i64, 1, 8, [.int .i64 0]⟩),
  (4, ⟨.bool, 1, 1, [.bool false]⟩),
  (5, ⟨.int .u8, 1, 1, [.int .u8 0]⟩),
  (9, ⟨.str, 1, 16, [.str ByteArray.empty]⟩),
  (21, ⟨.int .i32, 1, 4, [.int .i32 0]⟩),
  (23, ⟨.array 256 21, 256, 1024, [.ints .i32 256 (fun _ => 0)]⟩),
  (25, ⟨.slice 5, 1, 24, [.val (.slice none 0 0)]⟩),
  (40, ⟨.int .u32, 1, 4, [.int .u32 0]⟩),
  (41, ⟨.array 256 40, 256, 1024, [.ints .u32 256 (fun _ => 0)]⟩),
  (46, ⟨.int .u64, 1, 8, [.int .u64 0]⟩),
  (52, ⟨.int .u64, 1, 8, [.int .u64 0]⟩),
  (54, ⟨.array 2 5, 2, 2, [.ints .u8 2 (fun _ => 0)]⟩),
  (55, ⟨.ptr, 1, 8, [.val (.pointer none)]⟩),
  (60, ⟨.array 25 52, 25, 200, [.ints .u64 25 (fun _ => 0)]⟩),
  (62, ⟨.struct [(3, 0), (60, 1), (3, 26), (4, 27), (3, 28)], 29, 232, [.int .i64 0, .ints .u64 25 (fun _ => 0), .int .i64 0, .bool false, .int .i64 0]⟩),
  (65, ⟨.array 5 52, 5, 40, [.ints .u64 5 (fun _ => 0)]⟩)]
theorem btabOk : TabOk Go.Proofs.Try.prog btab := tabChk_ok (by kernel_rfl)
theorem bdep : 4 ≤ (Go.Proofs.Try.prog).depth := by
  have : Nat.ble 4 ((Go.Proofs.Try.prog).depth) = true := by kernel_rfl
  exact Nat.le_of_ble_eq_true this
theorem bord : (Go.Proofs.Try.prog).follows .mixedOrders = true := by kernel_rfl
def bstr0 : ByteArray := ⟨#[0, 32, 48, 64, 0, 0]⟩
def bstr1 : ByteArray := ⟨#[0, 136, 104, 72, 168, 136]⟩
def bstr2 : ByteArray := ⟨#[0, 6, 6, 6, 31, 31]⟩
noncomputable def bE0 : List (Nat × Ent) := []
theorem bE0_ok : EntsOk Go.Proofs.Try.prog (ofL bE0) := .nil _

/-! ### barbican/pack.lay -/
noncomputable def bodyb18 : Code := (Go.Proofs.Try.f18.body).getD .skip
abbrev Sb18 : FL := ⟨⟨[], [.env 0 (.agg [.ints .u32 256]), .env 1 (.c (.int .i64))], []⟩, 2, [(.ret, ⟨[(0, .full 1)], [.reg 1 (.row 5 .u8)], [(1, .env 0 0)]⟩)], [.tmp 4], false⟩
noncomputable def cb18 : Ctx Go.Proofs.Try.prog := ⟨btab, ofL bE0, btabOk, bE0_ok, bdep, bord⟩
abbrev lb18_1 : Lay := ⟨[(5, .full 12)], [.env 1 (.c (.int .i64)), .env 6 (.c (.int .u64)), .env 7 (.c (.int .i64)), .env 13 (.agg [.ints .u32 256]), .env 14 (.c (.int .i64)), .reg 12 (.row 5 .u8)], [(12, .env 5 0)]⟩
abbrev ob18_1 : List (AExit × Lay) := [(.exit 2, ⟨[(5, .full 12)], [.env 1 (.c (.int .i64)), .env 6 (.c (.int .u64)), .env 7 (.c (.int .i64)), .env 13 (.agg [.ints .u32 256]), .env 14 (.c (.int .i64)), .reg 12 (.row 5 .u8)], [(12, .env 5 0)]⟩)]
noncomputable def stepb18_1 : Int × Int × Int × (Nat → Int) × Int × List Int → Option ((Int × Int × Int × (Nat → Int) × Int × List Int) ⊕ ((Int × Int × Int × (Nat → Int) × Int × List Int)))
  | (t1, t6, t7, t13, t14, r12) =>
    if (decide (t7 ≥ 8)) = true then
      if okBytes (r12.length + ((List.replicate 1 (0 : Int)).set 0 (IntKind.u8.wrap t6)).length) 1 then
        let f2 : List Int := (r12 ++ ((List.replicate 1 (0 : Int)).set 0 (IntKind.u8.wrap t6)))
        some (.inl (t1, (shrI .u64 t6 8), (IntKind.i64.wrap (t7 - 8)), t13, t14, f2))
      else none
    else
      some (.inr (t1, t6, t7, t13, t14, r12))

noncomputable def annb18_1 : Ann := .none
abbrev lb18_0 : Lay := ⟨[(5, .full 12)], [.env 1 (.c (.int .i64)), .env 6 (.c (.int .u64)), .env 7 (.c (.int .i64)), .env 13 (.agg [.ints .u32 256]), .env 14 (.c (.int .i64)), .reg 12 (.row 5 .u8)], [(12, .env 5 0)]⟩
abbrev ob18_0 : List (AExit × Lay) := [(.exit 0, ⟨[(5, .full 12)], [.reg 12 (.row 5 .u8)], [(12, .env 5 0)]⟩)]
noncomputable def stepb18_0 : Int × Int × Int × (Nat → Int) × Int × List Int → Option ((Int × Int × Int × (Nat → Int) × Int × List Int) ⊕ ((List Int)))
  | (t1, t6, t7, t13, t14, r12) =>
    if (decide (t14 < 256)) = true then
      if (0 : Int) ≤ t14 ∧ t14 < (256 : Int) then
        if 0 ≤ t7 then
          let x1 : Int := (bitsOr .u64 t6 (shlI .u64 (IntKind.u64.wrap (t13 t14.toNat)) t7))
          (loopO stepb18_1 (t1, x1, (IntKind.i64.wrap (t7 + t1)), t13, t14, r12)).bind fun (z3, z4, z5, z6, z7, z8) =>
            some (.inl (z3, z4, z5, z6, (IntKind.i64.wrap (z7 + 1)), z8))
        else none
      else none
    else
      some (.inr r12)

noncomputable def annb18_0 : Ann := (.seq .none (.seq .none (.seq (.seq (.seq .none (.seq .none (.seq .none (.seq (.cut (cutEnt lb18_1 ob18_1 (loopO (stepb18_1)))) .none)))) .none) .none)))
noncomputable def Fb18 : (Nat → Int) × Int → Option ((List Int))
  | (a0, a1) =>
    if 0 ≤ (0 : Int) ∧ (0 : Int) ≤ (IntKind.i64.wrap (32 * a1)) ∧ okBytes (IntKind.i64.wrap (32 * a1)).toNat 1 then
      (loopO stepb18_0 (a1, 0, 0, a0, 0, (List.replicate 0 (0 : Int)))).bind fun z9 =>
        some z9
    else none

noncomputable def annb18 : Ann := (.seq .none (.seq .none (.seq .none (.seq (.seq .none (.seq (.cut (cutEnt lb18_0 ob18_0 (loopO (stepb18_0)))) .none)) .none))))
theorem eqb18_1 : ∀ s : lb18_1.T, exec btab (ofL bE0) 39 (Code.at' [1, 1, 1, 0, 1, 0, 0, 1, 1, 0, 0, 1, 1, 1, 0, 0] bodyb18) annb18_1 (fun e st => loopEnd (l := lb18_1) (outs := ob18_1) e st) (lb18_1.enc s) = stepb18_1 s := by
  rintro ⟨t1, t6, t7, t13, t14, r12⟩
  kernel_rfl
theorem okb18_1 : LOk Go.Proofs.Try.prog 39 (cutEnt lb18_1 ob18_1 (loopO stepb18_1)) (Code.at' [1, 1, 1, 0, 1, 0, 0, 1, 1, 0, 0, 1, 1, 1, 0] bodyb18) := by
  have e : Code.at' [1, 1, 1, 0, 1, 0, 0, 1, 1, 0, 0, 1, 1, 1, 0] bodyb18 = .loop (Code.at' [1, 1, 1, 0, 1, 0, 0, 1, 1, 0, 0, 1, 1, 1, 0, 0] bodyb18) := by kernel_rfl
  rw [e]
  refine loop_ok cb18 39 rfl rfl (annOk_of_cuts ?_) eqb18_1
  intro x hx
  exact absurd hx (by show x ∉ ([] : List (List Nat × LEnt)); simp)

theorem eqb18_0 : ∀ s : lb18_0.T, exec btab (ofL bE0) 39 (Code.at' [1, 1, 1, 0, 1, 0, 0] bodyb18) annb18_0 (fun e st => loopEnd (l := lb18_0) (outs := ob18_0) e st) (lb18_0.enc s) = stepb18_0 s := by
  rintro ⟨t1, t6, t7, t13, t14, r12⟩
  kernel_rfl
theorem okb18_0 : LOk Go.Proofs.Try.prog 39 (cutEnt lb18_0 ob18_0 (loopO stepb18_0)) (Code.at' [1, 1, 1, 0, 1, 0] bodyb18) := by
  have e : Code.at' [1, 1, 1, 0, 1, 0] bodyb18 = .loop (Code.at' [1, 1, 1, 0, 1, 0, 0] bodyb18) := by kernel_rfl
  rw [e]
  refine loop_ok cb18 39 rfl rfl (annOk_of_cuts ?_) eqb18_0
  have hc : Ann.cuts annb18_0 = [([1, 1, 0, 0, 1, 1, 1, 0], (cutEnt lb18_1 ob18_1 (loopO (stepb18_1))))] := by kernel_rfl
  rw [hc]
  intro x hx
  simp only [List.mem_cons, List.not_mem_nil, or_false] at hx
  rcases hx with rfl
  · have e : Code.at' [1, 1, 0, 0, 1, 1, 1, 0] (Code.at' [1, 1, 1, 0, 1, 0, 0] bodyb18) = Code.at' [1, 1, 1, 0, 1, 0, 0, 1, 1, 0, 0, 1, 1, 1, 0] bodyb18 := by kernel_rfl
    rw [e]; exact okb18_1

theorem eqb18 : ∀ x : Sb18.inT, exec btab (ofL bE0) 39 bodyb18 annb18 (finL btab Sb18) (Sb18.inp.enc x) = Fb18 x := by
  rintro ⟨a0, a1⟩
  kernel_rfl
theorem callsb18 : CallsL Go.Proofs.Try.prog 18 Sb18 Fb18 := by
  refine fun_callsL (fn := Go.Proofs.Try.f18) (c := bodyb18) (ann := annb18) cb18 (by kernel_rfl) (by kernel_rfl) (by kernel_rfl) (by kernel_rfl) (by kernel_rfl) (annOk_of_cuts ?_) eqb18
  have hc : Ann.cuts annb18 = [([1, 1, 1, 0, 1, 0], (cutEnt lb18_0 ob18_0 (loopO (stepb18_0))))] := by kernel_rfl
  rw [hc]
  intro x hx
  simp only [List.mem_cons, List.not_mem_nil, or_false] at hx
  rcases hx with rfl
  · have e : Code.at' [1, 1, 1, 0, 1, 0] bodyb18 = Code.at' [1, 1, 1, 0, 1, 0] bodyb18 := by kernel_rfl
    rw [e]; exact okb18_0

theorem entb18 : EntOk Go.Proofs.Try.prog 18 (funEntL Sb18 true Fb18) := fun_okL (fn := Go.Proofs.Try.f18) (c := bodyb18) (by kernel_rfl) (by kernel_rfl) (by kernel_rfl) (by kernel_rfl) callsb18
noncomputable def Eb18 : List (Nat × Ent) := (18, funEntL Sb18 true Fb18) :: bE0
theorem Eb18_ok : EntsOk Go.Proofs.Try.prog (ofL Eb18) := .cons entb18 bE0_ok

/-! ### barbican/pack.Up -/
noncomputable def bodyb7 : Code := (Go.Proofs.Try.f7.body).getD .skip
abbrev Sb7 : FL := ⟨⟨[], [.env 0 (.agg [.ints .i32 256]), .env 1 (.c (.int .i64))], []⟩, 2, [(.ret, ⟨[(0, .full 1)], [.reg 1 (.row 5 .u8), .env 1 (.c (.int .i64))], [(1, .env 0 0)]⟩)], [.tmp 4, .tmp 5], false⟩
noncomputable def cb7 : Ctx Go.Proofs.Try.prog := ⟨btab, ofL Eb18, btabOk, Eb18_ok, bdep, bord⟩
abbrev lb7_0 : Lay := ⟨[(6, .ptr 6 0 256)], [.env 1 (.c (.int .i64)), .env 15 (.agg [.ints .i32 256]), .env 16 (.c (.int .i64)), .reg 6 (.cells [.ints .u32 256])], [(6, .env 6 0)]⟩
abbrev ob7_0 : List (AExit × Lay) := [(.ret, ⟨[(4, .full 4)], [.env 5 (.c (.int .i64)), .reg 4 (.row 5 .u8)], [(4, .env 4 0)]⟩), (.exit 0, ⟨[(6, .ptr 6 0 256)], [.env 1 (.c (.int .i64)), .reg 6 (.cells [.ints .u32 256])], [(6, .env 6 0)]⟩)]
noncomputable def stepb7_0 : Int × (Nat → Int) × Int × (Nat → Int) → Option ((Int × (Nat → Int) × Int × (Nat → Int)) ⊕ ((Int × List Int) ⊕ (Int × (Nat → Int))))
  | (t1, t15, t16, r6) =>
    if (decide (t16 < 256)) = true then
      if (0 : Int) ≤ t16 ∧ t16 < (256 : Int) then
        if (decide ((t15 t16.toNat) < 0)) = false then
          if (decide ((t15 t16.toNat) ≥ 8380417)) = false then
            if 0 ≤ t1 then
              if ((shrI .i32 (t15 t16.toNat) t1) != 0) = true then
                some (.inr (.inl (92, ([] : List Int))))
              else
                if (0 : Int) ≤ t16 ∧ t16 < ((256 : Int) : Int) then
                  some (.inl (t1, t15, (IntKind.i64.wrap (t16 + 1)), (upd r6 t16.toNat (IntKind.u32.wrap (t15 t16.toNat)))))
                else none
            else none
          else
            some (.inr (.inl (92, ([] : List Int))))
        else
          some (.inr (.inl (92, ([] : List Int))))
      else none
    else
      some (.inr (.inr (t1, r6)))

noncomputable def annb7_0 : Ann := .none
noncomputable def Fb7 : (Nat → Int) × Int → Option ((List Int × Int))
  | (a0, a1) =>
    if (decide (a1 < 1)) = false then
      if (decide (a1 > 23)) = true then
        some (([] : List Int), 1)
      else
        (loopO stepb7_0 (a1, a0, 0, (fun _ => 0))).bind fun
          | (.inl (z1, z2)) =>
            some (z2, z1)
          | (.inr (z3, z4)) =>
            (Fb18 (z4, z3)).bind fun y5 =>
              some (y5, 0)
    else
      some (([] : List Int), 1)

noncomputable def annb7 : Ann := (.seq .none (.seq .none (.seq .none (.seq (.seq .none (.seq (.cut (cutEnt lb7_0 ob7_0 (loopO (stepb7_0)))) .none)) .none))))
theorem eqb7_0 : ∀ s : lb7_0.T, exec btab (ofL Eb18) 40 (Code.at' [1, 1, 1, 0, 1, 0, 0] bodyb7) annb7_0 (fun e st => loopEnd (l := lb7_0) (outs := ob7_0) e st) (lb7_0.enc s) = stepb7_0 s := by
  rintro ⟨t1, t15, t16, r6⟩
  kernel_rfl
theorem okb7_0 : LOk Go.Proofs.Try.prog 40 (cutEnt lb7_0 ob7_0 (loopO stepb7_0)) (Code.at' [1, 1, 1, 0, 1, 0] bodyb7) := by
  have e : Code.at' [1, 1, 1, 0, 1, 0] bodyb7 = .loop (Code.at' [1, 1, 1, 0, 1, 0, 0] bodyb7) := by kernel_rfl
  rw [e]
  refine loop_ok cb7 40 rfl rfl (annOk_of_cuts ?_) eqb7_0
  intro x hx
  exact absurd hx (by show x ∉ ([] : List (List Nat × LEnt)); simp)

theorem eqb7 : ∀ x : Sb7.inT, exec btab (ofL Eb18) 40 bodyb7 annb7 (finL btab Sb7) (Sb7.inp.enc x) = Fb7 x := by
  rintro ⟨a0, a1⟩
  kernel_rfl
theorem callsb7 : CallsL Go.Proofs.Try.prog 7 Sb7 Fb7 := by
  refine fun_callsL (fn := Go.Proofs.Try.f7) (c := bodyb7) (ann := annb7) cb7 (by kernel_rfl) (by kernel_rfl) (by kernel_rfl) (by kernel_rfl) (by kernel_rfl) (annOk_of_cuts ?_) eqb7
  have hc : Ann.cuts annb7 = [([1, 1, 1, 0, 1, 0], (cutEnt lb7_0 ob7_0 (loopO (stepb7_0))))] := by kernel_rfl
  rw [hc]
  intro x hx
  simp only [List.mem_cons, List.not_mem_nil, or_false] at hx
  rcases hx with rfl
  · have e : Code.at' [1, 1, 1, 0, 1, 0] bodyb7 = Code.at' [1, 1, 1, 0, 1, 0] bodyb7 := by kernel_rfl
    rw [e]; exact okb7_0

theorem entb7 : EntOk Go.Proofs.Try.prog 7 (funEntL Sb7 true Fb7) := fun_okL (fn := Go.Proofs.Try.f7) (c := bodyb7) (by kernel_rfl) (by kernel_rfl) (by kernel_rfl) (by kernel_rfl) callsb7
noncomputable def Eb7 : List (Nat × Ent) := (7, funEntL Sb7 true Fb7) :: Eb18
theorem Eb7_ok : EntsOk Go.Proofs.Try.prog (ofL Eb7) := .cons entb7 Eb18_ok

/-! ### barbican/pack.wrong -/
noncomputable def bodyb19 : Code := (Go.Proofs.Try.f19.body).getD .skip
abbrev Sb19 : FL := ⟨⟨[], [.env 0 (.c (.int .i32)), .env 1 (.c (.int .i64))], []⟩, 2, [(.ret, ⟨[], [.env 0 (.c (.bool))], []⟩)], [.tmp 4], false⟩
noncomputable def cb19 : Ctx Go.Proofs.Try.prog := ⟨btab, ofL Eb7, btabOk, Eb7_ok, bdep, bord⟩
noncomputable def Fb19 : Int × Int → Option ((Bool))
  | (a0, a1) =>
    if (decide (a1 < 1)) = false then
      if (decide (a1 > 22)) = false then
        if (decide (a0 < 0)) = false then
          some (decide (a0 > 4194304))
        else
          some true
      else
        some true
    else
      some true

noncomputable def annb19 : Ann := .none
theorem eqb19 : ∀ x : Sb19.inT, exec btab (ofL Eb7) 19 bodyb19 annb19 (finL btab Sb19) (Sb19.inp.enc x) = Fb19 x := by
  rintro ⟨a0, a1⟩
  kernel_rfl
theorem callsb19 : CallsL Go.Proofs.Try.prog 19 Sb19 Fb19 := by
  refine fun_callsL (fn := Go.Proofs.Try.f19) (c := bodyb19) (ann := annb19) cb19 (by kernel_rfl) (by kernel_rfl) (by kernel_rfl) (by kernel_rfl) (by kernel_rfl) (annOk_of_cuts ?_) eqb19
  intro x hx
  exact absurd hx (by show x ∉ ([] : List (List Nat × LEnt)); simp)

theorem entb19 : EntOk Go.Proofs.Try.prog 19 (funEntL Sb19 true Fb19) := fun_okL (fn := Go.Proofs.Try.f19) (c := bodyb19) (by kernel_rfl) (by kernel_rfl) (by kernel_rfl) (by kernel_rfl) callsb19
noncomputable def Eb19 : List (Nat × Ent) := (19, funEntL Sb19 true Fb19) :: Eb7
theorem Eb19_ok : EntsOk Go.Proofs.Try.prog (ofL Eb19) := .cons entb19 Eb7_ok

/-! ### barbican/pack.Down -/
noncomputable def bodyb8 : Code := (Go.Proofs.Try.f8.body).getD .skip
abbrev Sb8 : FL := ⟨⟨[], [.env 0 (.agg [.ints .i32 256]), .env 1 (.c (.int .i32)), .env 2 (.c (.int .i64))], []⟩, 3, [(.ret, ⟨[(0, .full 1)], [.reg 1 (.row 5 .u8), .env 1 (.c (.int .i64))], [(1, .env 0 0)]⟩)], [.tmp 6, .tmp 7], false⟩
noncomputable def cb8 : Ctx Go.Proofs.Try.prog := ⟨btab, ofL Eb19, btabOk, Eb19_ok, bdep, bord⟩
abbrev lb8_0 : Lay := ⟨[(8, .ptr 8 0 256)], [.env 1 (.c (.int .i32)), .env 2 (.c (.int .i64)), .env 14 (.agg [.ints .i32 256]), .env 15 (.c (.int .i64)), .reg 8 (.cells [.ints .u32 256])], [(8, .env 8 0)]⟩
abbrev ob8_0 : List (AExit × Lay) := [(.ret, ⟨[(6, .full 6)], [.env 7 (.c (.int .i64)), .reg 6 (.row 5 .u8)], [(6, .env 6 0)]⟩), (.exit 0, ⟨[(8, .ptr 8 0 256)], [.env 2 (.c (.int .i64)), .reg 8 (.cells [.ints .u32 256])], [(8, .env 8 0)]⟩)]
noncomputable def stepb8_0 : Int × Int × (Nat → Int) × Int × (Nat → Int) → Option ((Int × Int × (Nat → Int) × Int × (Nat → Int)) ⊕ ((Int × List Int) ⊕ (Int × (Nat → Int))))
  | (t1, t2, t14, t15, r8) =>
    if (decide (t15 < 256)) = true then
      if (0 : Int) ≤ t15 ∧ t15 < (256 : Int) then
        if (decide ((t14 t15.toNat) < 0)) = false then
          if (decide ((t14 t15.toNat) ≥ 8380417)) = true then
            some (.inr (.inl (92, ([] : List Int))))
          else
            if (decide ((t14 t15.toNat) > 4190208)) = true then
              let x2 : Int := (IntKind.i32.wrap (t1 - (IntKind.i32.wrap ((t14 t15.toNat) - 8380417))))
              if (decide (x2 < 0)) = false then
                if 0 ≤ t2 then
                  if ((shrI .i32 x2 t2) != 0) = true then
                    some (.inr (.inl (92, ([] : List Int))))
                  else
                    if (0 : Int) ≤ t15 ∧ t15 < ((256 : Int) : Int) then
                      some (.inl (t1, t2, t14, (IntKind.i64.wrap (t15 + 1)), (upd r8 t15.toNat (IntKind.u32.wrap x2))))
                    else none
                else none
              else
                some (.inr (.inl (92, ([] : List Int))))
            else
              if (decide ((IntKind.i32.wrap (t1 - (t14 t15.toNat))) < 0)) = false then
                if 0 ≤ t2 then
                  let x3 : Bool := ((shrI .i32 (IntKind.i32.wrap (t1 - (t14 t15.toNat))) t2) != 0)
                  if x3 = true then
                    some (.inr (.inl (92, ([] : List Int))))
                  else
                    if (0 : Int) ≤ t15 ∧ t15 < ((256 : Int) : Int) then
                      let f4 : Nat → Int := (upd r8 t15.toNat (IntKind.u32.wrap (IntKind.i32.wrap (t1 - (t14 t15.toNat)))))
                      some (.inl (t1, t2, t14, (IntKind.i64.wrap (t15 + 1)), f4))
                    else none
                else none
              else
                some (.inr (.inl (92, ([] : List Int))))
        else
          some (.inr (.inl (92, ([] : List Int))))
      else none
    else
      some (.inr (.inr (t2, r8)))

noncomputable def annb8_0 : Ann := .none
noncomputable def Fb8 : (Nat → Int) × Int × Int → Option ((List Int × Int))
  | (a0, a1, a2) =>
    (Fb19 (a1, a2)).bind fun y1 =>
      if y1 = true then
        some (([] : List Int), 1)
      else
        (loopO stepb8_0 (a1, a2, a0, 0, (fun _ => 0))).bind fun
          | (.inl (z5, z6)) =>
            some (z6, z5)
          | (.inr (z7, z8)) =>
            (Fb18 (z8, z7)).bind fun y9 =>
              some (y9, 0)

noncomputable def annb8 : Ann := (.seq .none (.seq .none (.seq .none (.seq (.seq .none (.seq (.cut (cutEnt lb8_0 ob8_0 (loopO (stepb8_0)))) .none)) .none))))
theorem eqb8_0 : ∀ s : lb8_0.T, exec btab (ofL Eb19) 48 (Code.at' [1, 1, 1, 0, 1, 0, 0] bodyb8) annb8_0 (fun e st => loopEnd (l := lb8_0) (outs := ob8_0) e st) (lb8_0.enc s) = stepb8_0 s := by
  rintro ⟨t1, t2, t14, t15, r8⟩
  kernel_rfl
theorem okb8_0 : LOk Go.Proofs.Try.prog 48 (cutEnt lb8_0 ob8_0 (loopO stepb8_0)) (Code.at' [1, 1, 1, 0, 1, 0] bodyb8) := by
  have e : Code.at' [1, 1, 1, 0, 1, 0] bodyb8 = .loop (Code.at' [1, 1, 1, 0, 1, 0, 0] bodyb8) := by kernel_rfl
  rw [e]
  refine loop_ok cb8 48 rfl rfl (annOk_of_cuts ?_) eqb8_0
  intro x hx
  exact absurd hx (by show x ∉ ([] : List (List Nat × LEnt)); simp)

theorem eqb8 : ∀ x : Sb8.inT, exec btab (ofL Eb19) 48 bodyb8 annb8 (finL btab Sb8) (Sb8.inp.enc x) = Fb8 x := by
  rintro ⟨a0, a1, a2⟩
  kernel_rfl
theorem callsb8 : CallsL Go.Proofs.Try.prog 8 Sb8 Fb8 := by
  refine fun_callsL (fn := Go.Proofs.Try.f8) (c := bodyb8) (ann := annb8) cb8 (by kernel_rfl) (by kernel_rfl) (by kernel_rfl) (by kernel_rfl) (by kernel_rfl) (annOk_of_cuts ?_) eqb8
  have hc : Ann.cuts annb8 = [([1, 1, 1, 0, 1, 0], (cutEnt lb8_0 ob8_0 (loopO (stepb8_0))))] := by kernel_rfl
  rw [hc]
  intro x hx
  simp only [List.mem_cons, List.not_mem_nil, or_false] at hx
  rcases hx with rfl
  · have e : Code.at' [1, 1, 1, 0, 1, 0] bodyb8 = Code.at' [1, 1, 1, 0, 1, 0] bodyb8 := by kernel_rfl
    rw [e]; exact okb8_0

theorem entb8 : EntOk Go.Proofs.Try.prog 8 (funEntL Sb8 true Fb8) := fun_okL (fn := Go.Proofs.Try.f8) (c := bodyb8) (by kernel_rfl) (by kernel_rfl) (by kernel_rfl) (by kernel_rfl) callsb8
noncomputable def Eb8 : List (Nat × Ent) := (8, funEntL Sb8 true Fb8) :: Eb19
theorem Eb8_ok : EntsOk Go.Proofs.Try.prog (ofL Eb8) := .cons entb8 Eb19_ok

/-! ### barbican/barbicanlaw09.awake -/
noncomputable def bodyb6 : Code := (Go.Proofs.Try.f6.body).getD .skip
abbrev Sb6 : FL := ⟨⟨[], [], []⟩, 0, [(.ret, ⟨[], [.env 0 (.c (.bool))], []⟩)], [.tmp 0], false⟩
noncomputable def cb6 : Ctx Go.Proofs.Try.prog := ⟨btab, ofL Eb8, btabOk, Eb8_ok, bdep, bord⟩
noncomputable def Fb6 : Unit → Option ((Bool))
  | _ =>
    (Fb7 ((upd (upd (fun _ => 0) 0 0) 1 1), 1)).bind fun (y1, y2) =>
      (Fb8 ((fun _ => 0), 3, 2)).bind fun (y3, y4) =>
        if (y2 == 0) = true then
          if ((y1.length : Int) == 32) = true then
            if (0 : Int) ≤ (0 : Int) ∧ (0 : Int) < (y1.length : Int) then
              if ((y1.getD 0 0) == 2) = true then
                if (y4 == 0) = true then
                  if ((y3.length : Int) == 64) = true then
                    if (0 : Int) ≤ (0 : Int) ∧ (0 : Int) < (y3.length : Int) then
                      some ((y3.getD 0 0) == 255)
                    else none
                  else
                    some false
                else
                  some false
              else
                some false
            else none
          else
            some false
        else
          some false

noncomputable def annb6 : Ann := .none
theorem eqb6 : ∀ x : Sb6.inT, exec btab (ofL Eb8) 43 bodyb6 annb6 (finL btab Sb6) (Sb6.inp.enc x) = Fb6 x := by
  intro x
  kernel_rfl
theorem callsb6 : CallsL Go.Proofs.Try.prog 6 Sb6 Fb6 := by
  refine fun_callsL (fn := Go.Proofs.Try.f6) (c := bodyb6) (ann := annb6) cb6 (by kernel_rfl) (by kernel_rfl) (by kernel_rfl) (by kernel_rfl) (by kernel_rfl) (annOk_of_cuts ?_) eqb6
  intro x hx
  exact absurd hx (by show x ∉ ([] : List (List Nat × LEnt)); simp)

theorem entb6 : EntOk Go.Proofs.Try.prog 6 (funEntL Sb6 true Fb6) := fun_okL (fn := Go.Proofs.Try.f6) (c := bodyb6) (by kernel_rfl) (by kernel_rfl) (by kernel_rfl) (by kernel_rfl) callsb6
noncomputable def Eb6 : List (Nat × Ent) := (6, funEntL Sb6 true Fb6) :: Eb8
theorem Eb6_ok : EntsOk Go.Proofs.Try.prog (ofL Eb6) := .cons entb6 Eb8_ok

/-! ### barbican/keccak.New -/
noncomputable def bodyb27 : Code := (Go.Proofs.Try.f27.body).getD .skip
abbrev Sb27 : FL := ⟨⟨[], [.env 0 (.c (.int .i64))], []⟩, 1, [(.ret, ⟨[(0, .ptr 1 0 29)], [.reg 1 (.cells [.int .i64, .ints .u64 25, .int .i64, .bool, .int .i64]), .env 1 (.c (.int .i64))], [(1, .env 0 0)]⟩), (.ret, ⟨[(0, .nilp)], [.env 1 (.c (.int .i64))], []⟩)], [.tmp 2, .tmp 3], false⟩
noncomputable def cb27 : Ctx Go.Proofs.Try.prog := ⟨btab, ofL Eb6, btabOk, Eb6_ok, bdep, bord⟩
noncomputable def Fb27 : Int → Option (((Int × (Nat → Int) × Int × Bool × Int) × Int) ⊕ (Int))
  | a0 =>
    if (decide (a0 < 1)) = false then
      if (decide (a0 > 5)) = true then
        some (.inr 31)
      else
        if 0 ≤ a0 ∧ a0 < (bstr0.size : Int) then
          if ((IntKind.i64.wrap (strAt bstr0 a0)) == 0) = true then
            some (.inl ((a0, (fun _ => 0), 0, false, (-1)), 0))
          else
            some (.inl ((a0, (fun _ => 0), 0, false, (IntKind.i64.wrap (strAt bstr0 a0))), 0))
        else none
    else
      some (.inr 31)

noncomputable def annb27 : Ann := .none
theorem eqb27 : ∀ x : Sb27.inT, exec btab (ofL Eb6) 26 bodyb27 annb27 (finL btab Sb27) (Sb27.inp.enc x) = Fb27 x := by
  intro x
  kernel_rfl
theorem callsb27 : CallsL Go.Proofs.Try.prog 27 Sb27 Fb27 := by
  refine fun_callsL (fn := Go.Proofs.Try.f27) (c := bodyb27) (ann := annb27) cb27 (by kernel_rfl) (by kernel_rfl) (by kernel_rfl) (by kernel_rfl) (by kernel_rfl) (annOk_of_cuts ?_) eqb27
  intro x hx
  exact absurd hx (by show x ∉ ([] : List (List Nat × LEnt)); simp)

theorem entb27 : EntOk Go.Proofs.Try.prog 27 (funEntL Sb27 true Fb27) := fun_okL (fn := Go.Proofs.Try.f27) (c := bodyb27) (by kernel_rfl) (by kernel_rfl) (by kernel_rfl) (by kernel_rfl) callsb27
noncomputable def Eb27 : List (Nat × Ent) := (27, funEntL Sb27 true Fb27) :: Eb6
theorem Eb27_ok : EntsOk Go.Proofs.Try.prog (ofL Eb27) := .cons entb27 Eb6_ok

/-! ### (*barbican/keccak.Sponge).mix -/
noncomputable def bodyb31 : Code := (Go.Proofs.Try.f31.body).getD .skip
abbrev Sb31 : FL := ⟨⟨[(0, .ptr 1000000 0 29)], [.reg 1000000 (.cells [.int .i64, .ints .u64 25, .int .i64, .bool, .int .i64]), .env 1 (.c (.int .i64)), .env 2 (.c (.int .u8))], [(1000000, .env 0 0)]⟩, 3, [(.ret, ⟨[], [.reg 1000000 (.cells [.int .i64, .ints .u64 25, .int .i64, .bool, .int .i64])], []⟩)], [], false⟩
noncomputable def cb31 : Ctx Go.Proofs.Try.prog := ⟨btab, ofL Eb27, btabOk, Eb27_ok, bdep, bord⟩
noncomputable def Fb31 : (Int × (Nat → Int) × Int × Bool × Int) × Int × Int → Option ((Int × (Nat → Int) × Int × Bool × Int))
  | (io, a1, a2) =>
    if (0 : Int) ≤ (IntKind.i64.wrap (a1.tdiv 8)) ∧ (IntKind.i64.wrap (a1.tdiv 8)) < ((25 : Int) : Int) then
      if 0 ≤ (IntKind.i64.wrap (8 * (a1.tmod 8))) then
        let x1 : Int := (shlI .u64 (IntKind.u64.wrap a2) (IntKind.i64.wrap (8 * (a1.tmod 8))))
        let x2 : Int := (bitsXor .u64 (io.2.1 (IntKind.i64.wrap (a1.tdiv 8)).toNat) x1)
        if (0 : Int) ≤ (IntKind.i64.wrap (a1.tdiv 8)) ∧ (IntKind.i64.wrap (a1.tdiv 8)) < ((25 : Int) : Int) then
          some (io.1, (upd io.2.1 (IntKind.i64.wrap (a1.tdiv 8)).toNat x2), io.2.2.1, io.2.2.2.1, io.2.2.2.2)
        else none
      else none
    else none

noncomputable def annb31 : Ann := .none
theorem eqb31 : ∀ x : Sb31.inT, exec btab (ofL Eb27) 23 bodyb31 annb31 (finL btab Sb31) (Sb31.inp.enc x) = Fb31 x := by
  rintro ⟨io, a1, a2⟩
  kernel_rfl
theorem callsb31 : CallsL Go.Proofs.Try.prog 31 Sb31 Fb31 := by
  refine fun_callsL (fn := Go.Proofs.Try.f31) (c := bodyb31) (ann := annb31) cb31 (by kernel_rfl) (by kernel_rfl) (by kernel_rfl) (by kernel_rfl) (by kernel_rfl) (annOk_of_cuts ?_) eqb31
  intro x hx
  exact absurd hx (by show x ∉ ([] : List (List Nat × LEnt)); simp)

theorem entb31 : EntOk Go.Proofs.Try.prog 31 (funEntL Sb31 true Fb31) := fun_okL (fn := Go.Proofs.Try.f31) (c := bodyb31) (by kernel_rfl) (by kernel_rfl) (by kernel_rfl) (by kernel_rfl) callsb31
noncomputable def Eb31 : List (Nat × Ent) := (31, funEntL Sb31 true Fb31) :: Eb27
theorem Eb31_ok : EntsOk Go.Proofs.Try.prog (ofL Eb31) := .cons entb31 Eb27_ok

/-! ### math/bits.RotateLeft64 -/
noncomputable def bodyb33 : Code := (Go.Proofs.Try.f33.body).getD .skip
abbrev Sb33 : FL := ⟨⟨[], [.env 0 (.c (.int .u64)), .env 1 (.c (.int .i64))], []⟩, 2, [(.ret, ⟨[], [.env 0 (.c (.int .u64))], []⟩)], [.tmp 4], false⟩
noncomputable def cb33 : Ctx Go.Proofs.Try.prog := ⟨btab, ofL Eb31, btabOk, Eb31_ok, bdep, bord⟩
noncomputable def Fb33 : Int × Int → Option ((Int))
  | (a0, a1) =>
    if 0 ≤ (bitsAnd .u64 (IntKind.u64.wrap a1) 63) then
      let x1 : Int := (IntKind.u64.wrap (64 - (bitsAnd .u64 (IntKind.u64.wrap a1) 63)))
      if 0 ≤ x1 then
        let x2 : Int := (bitsOr .u64 (shlI .u64 a0 (bitsAnd .u64 (IntKind.u64.wrap a1) 63)) (shrI .u64 a0 x1))
        some x2
      else none
    else none

noncomputable def annb33 : Ann := .none
theorem eqb33 : ∀ x : Sb33.inT, exec btab (ofL Eb31) 17 bodyb33 annb33 (finL btab Sb33) (Sb33.inp.enc x) = Fb33 x := by
  rintro ⟨a0, a1⟩
  kernel_rfl
theorem callsb33 : CallsL Go.Proofs.Try.prog 33 Sb33 Fb33 := by
  refine fun_callsL (fn := Go.Proofs.Try.f33) (c := bodyb33) (ann := annb33) cb33 (by kernel_rfl) (by kernel_rfl) (by kernel_rfl) (by kernel_rfl) (by kernel_rfl) (annOk_of_cuts ?_) eqb33
  intro x hx
  exact absurd hx (by show x ∉ ([] : List (List Nat × LEnt)); simp)

theorem entb33 : EntOk Go.Proofs.Try.prog 33 (funEntL Sb33 true Fb33) := fun_okL (fn := Go.Proofs.Try.f33) (c := bodyb33) (by kernel_rfl) (by kernel_rfl) (by kernel_rfl) (by kernel_rfl) callsb33
noncomputable def Eb33 : List (Nat × Ent) := (33, funEntL Sb33 true Fb33) :: Eb31
theorem Eb33_ok : EntsOk Go.Proofs.Try.prog (ofL Eb33) := .cons entb33 Eb31_ok

/-! ### barbican/keccak.Permute -/
noncomputable def bodyb32 : Code := (Go.Proofs.Try.f32.body).getD .skip
abbrev Sb32 : FL := ⟨⟨[], [.env 0 (.agg [.ints .u64 25])], []⟩, 1, [(.ret, ⟨[], [.env 0 (.agg [.ints .u64 25])], []⟩)], [.cell 2 60], false⟩
noncomputable def cb32 : Ctx Go.Proofs.Try.prog := ⟨btab, ofL Eb33, btabOk, Eb33_ok, bdep, bord⟩
abbrev lb32_1 : Lay := ⟨[(1, .ptr 1 0 25), (2, .ptr 2 0 25), (4, .ptr 4 0 5)], [.env 3 (.c (.int .u8)), .env 17 (.c (.int .i64)), .env 19 (.agg [.ints .u64 25]), .env 20 (.c (.int .i64)), .reg 1 (.cells [.ints .u64 25]), .reg 2 (.cells [.ints .u64 25]), .reg 4 (.cells [.ints .u64 5])], [(1, .env 1 0), (2, .env 2 0), (4, .env 4 0)]⟩
abbrev ob32_1 : List (AExit × Lay) := [(.exit 2, ⟨[(1, .ptr 1 0 25), (2, .ptr 2 0 25), (4, .ptr 4 0 5)], [.env 3 (.c (.int .u8)), .env 17 (.c (.int .i64)), .reg 1 (.cells [.ints .u64 25]), .reg 2 (.cells [.ints .u64 25]), .reg 4 (.cells [.ints .u64 5])], [(1, .env 1 0), (2, .env 2 0), (4, .env 4 0)]⟩)]
noncomputable def stepb32_1 : Int × Int × (Nat → Int) × Int × (Nat → Int) × (Nat → Int) × (Nat → Int) → Option ((Int × Int × (Nat → Int) × Int × (Nat → Int) × (Nat → Int) × (Nat → Int)) ⊕ ((Int × Int × (Nat → Int) × (Nat → Int) × (Nat → Int))))
  | (t3, t17, t19, t20, r1, r2, r4) =>
    if (decide (t20 < 25)) = true then
      if (0 : Int) ≤ t20 ∧ t20 < (25 : Int) then
        if (0 : Int) ≤ (t20.tmod 5) ∧ (t20.tmod 5) < ((5 : Int) : Int) then
          if (0 : Int) ≤ (t20.tmod 5) ∧ (t20.tmod 5) < ((5 : Int) : Int) then
            let f1 : Nat → Int := (upd r4 (t20.tmod 5).toNat (bitsXor .u64 (r4 (t20.tmod 5).toNat) (t19 t20.toNat)))
            some (.inl (t3, t17, t19, (IntKind.i64.wrap (t20 + 1)), r1, r2, f1))
          else none
        else none
      else none
    else
      some (.inr (t3, t17, r1, r2, r4))

noncomputable def annb32_1 : Ann := .none
abbrev lb32_2 : Lay := ⟨[(1, .ptr 1 0 25), (2, .ptr 2 0 25), (4, .ptr 4 0 5)], [.env 3 (.c (.int .u8)), .env 17 (.c (.int .i64)), .env 32 (.c (.int .i64)), .reg 1 (.cells [.ints .u64 25]), .reg 2 (.cells [.ints .u64 25]), .reg 4 (.cells [.ints .u64 5])], [(1, .env 1 0), (2, .env 2 0), (4, .env 4 0)]⟩
abbrev ob32_2 : List (AExit × Lay) := [(.exit 4, ⟨[(1, .ptr 1 0 25), (2, .ptr 2 0 25)], [.env 3 (.c (.int .u8)), .env 17 (.c (.int .i64)), .reg 1 (.cells [.ints .u64 25]), .reg 2 (.cells [.ints .u64 25])], [(1, .env 1 0), (2, .env 2 0)]⟩)]
noncomputable def stepb32_2 : Int × Int × Int × (Nat → Int) × (Nat → Int) × (Nat → Int) → Option ((Int × Int × Int × (Nat → Int) × (Nat → Int) × (Nat → Int)) ⊕ ((Int × Int × (Nat → Int) × (Nat → Int))))
  | (t3, t17, t32, r1, r2, r4) =>
    if (decide (t32 < 25)) = true then
      if (0 : Int) ≤ t32 ∧ t32 < ((25 : Int) : Int) then
        if (0 : Int) ≤ ((IntKind.i64.wrap (t32 + 4)).tmod 5) ∧ ((IntKind.i64.wrap (t32 + 4)).tmod 5) < ((5 : Int) : Int) then
          if (0 : Int) ≤ ((IntKind.i64.wrap (t32 + 1)).tmod 5) ∧ ((IntKind.i64.wrap (t32 + 1)).tmod 5) < ((5 : Int) : Int) then
            (Fb33 ((r4 ((IntKind.i64.wrap (t32 + 1)).tmod 5).toNat), 1)).bind fun y7 =>
              let x8 : Int := (bitsXor .u64 (r4 ((IntKind.i64.wrap (t32 + 4)).tmod 5).toNat) y7)
              if (0 : Int) ≤ t32 ∧ t32 < ((25 : Int) : Int) then
                some (.inl (t3, t17, (IntKind.i64.wrap (t32 + 1)), (upd r1 t32.toNat (bitsXor .u64 (r1 t32.toNat) x8)), r2, r4))
              else none
          else none
        else none
      else none
    else
      some (.inr (t3, t17, r1, r2))

noncomputable def annb32_2 : Ann := .none
abbrev lb32_3 : Lay := ⟨[(1, .ptr 1 0 25), (2, .ptr 2 0 25)], [.env 3 (.c (.int .u8)), .env 8 (.c (.int .i64)), .env 9 (.c (.int .i64)), .env 10 (.c (.int .u64)), .env 17 (.c (.int .i64)), .env 55 (.c (.int .i64)), .reg 1 (.cells [.ints .u64 25]), .reg 2 (.cells [.ints .u64 25])], [(1, .env 1 0), (2, .env 2 0)]⟩
abbrev ob32_3 : List (AExit × Lay) := [(.exit 6, ⟨[(1, .ptr 1 0 25), (2, .ptr 2 0 25)], [.env 3 (.c (.int .u8)), .env 17 (.c (.int .i64)), .reg 1 (.cells [.ints .u64 25]), .reg 2 (.cells [.ints .u64 25])], [(1, .env 1 0), (2, .env 2 0)]⟩)]
noncomputable def stepb32_3 : Int × Int × Int × Int × Int × Int × (Nat → Int) × (Nat → Int) → Option ((Int × Int × Int × Int × Int × Int × (Nat → Int) × (Nat → Int)) ⊕ ((Int × Int × (Nat → Int) × (Nat → Int))))
  | (t3, t8, t9, t10, t17, t55, r1, r2) =>
    if (decide (t55 < 24)) = true then
      let x13 : Int := (IntKind.i64.wrap ((IntKind.i64.wrap (2 * t8)) + (IntKind.i64.wrap (3 * t9))))
      let x14 : Int := (IntKind.i64.wrap ((IntKind.i64.wrap (t55 + 1)) * (IntKind.i64.wrap (t55 + 2))))
      (Fb33 (t10, ((IntKind.i64.wrap (x14.tdiv 2)).tmod 64))).bind fun y15 =>
        let x16 : Int := (IntKind.i64.wrap (t9 + (IntKind.i64.wrap (5 * (x13.tmod 5)))))
        let x17 : Int := (IntKind.i64.wrap (t9 + (IntKind.i64.wrap (5 * (x13.tmod 5)))))
        if (0 : Int) ≤ x17 ∧ x17 < ((25 : Int) : Int) then
          if (0 : Int) ≤ x16 ∧ x16 < ((25 : Int) : Int) then
            some (.inl (t3, t9, (x13.tmod 5), (r1 x17.toNat), t17, (IntKind.i64.wrap (t55 + 1)), (upd r1 x16.toNat y15), r2))
          else none
        else none
    else
      some (.inr (t3, t17, r1, r2))

noncomputable def annb32_3 : Ann := .none
abbrev lb32_5 : Lay := ⟨[(1, .ptr 1 0 25), (2, .ptr 2 0 25), (14, .ptr 14 0 5)], [.env 3 (.c (.int .u8)), .env 13 (.c (.int .i64)), .env 17 (.c (.int .i64)), .env 97 (.c (.int .i64)), .reg 1 (.cells [.ints .u64 25]), .reg 2 (.cells [.ints .u64 25]), .reg 14 (.cells [.ints .u64 5])], [(1, .env 1 0), (2, .env 2 0), (14, .env 14 0)]⟩
abbrev ob32_5 : List (AExit × Lay) := [(.exit 10, ⟨[(1, .ptr 1 0 25), (2, .ptr 2 0 25)], [.env 3 (.c (.int .u8)), .env 13 (.c (.int .i64)), .env 17 (.c (.int .i64)), .reg 1 (.cells [.ints .u64 25]), .reg 2 (.cells [.ints .u64 25])], [(1, .env 1 0), (2, .env 2 0)]⟩)]
noncomputable def stepb32_5 : Int × Int × Int × Int × (Nat → Int) × (Nat → Int) × (Nat → Int) → Option ((Int × Int × Int × Int × (Nat → Int) × (Nat → Int) × (Nat → Int)) ⊕ ((Int × Int × Int × (Nat → Int) × (Nat → Int))))
  | (t3, t13, t17, t97, r1, r2, r14) =>
    if (decide (t97 < 5)) = true then
      if (0 : Int) ≤ t97 ∧ t97 < ((5 : Int) : Int) then
        if (0 : Int) ≤ ((IntKind.i64.wrap (t97 + 1)).tmod 5) ∧ ((IntKind.i64.wrap (t97 + 1)).tmod 5) < ((5 : Int) : Int) then
          let x22 : Int := (notI .u64 (r14 ((IntKind.i64.wrap (t97 + 1)).tmod 5).toNat))
          if (0 : Int) ≤ ((IntKind.i64.wrap (t97 + 2)).tmod 5) ∧ ((IntKind.i64.wrap (t97 + 2)).tmod 5) < ((5 : Int) : Int) then
            let x23 : Int := (bitsAnd .u64 x22 (r14 ((IntKind.i64.wrap (t97 + 2)).tmod 5).toNat))
            if (0 : Int) ≤ (IntKind.i64.wrap (t13 + t97)) ∧ (IntKind.i64.wrap (t13 + t97)) < ((25 : Int) : Int) then
              let f24 : Nat → Int := (upd r1 (IntKind.i64.wrap (t13 + t97)).toNat (bitsXor .u64 (r14 t97.toNat) x23))
              some (.inl (t3, t13, t17, (IntKind.i64.wrap (t97 + 1)), f24, r2, r14))
            else none
          else none
        else none
      else none
    else
      some (.inr (t3, t13, t17, r1, r2))

noncomputable def annb32_5 : Ann := .none
abbrev lb32_4 : Lay := ⟨[(1, .ptr 1 0 25), (2, .ptr 2 0 25)], [.env 3 (.c (.int .u8)), .env 13 (.c (.int .i64)), .env 17 (.c (.int .i64)), .reg 1 (.cells [.ints .u64 25]), .reg 2 (.cells [.ints .u64 25])], [(1, .env 1 0), (2, .env 2 0)]⟩
abbrev ob32_4 : List (AExit × Lay) := [(.exit 8, ⟨[(1, .ptr 1 0 25), (2, .ptr 2 0 25)], [.env 3 (.c (.int .u8)), .env 17 (.c (.int .i64)), .reg 1 (.cells [.ints .u64 25]), .reg 2 (.cells [.ints .u64 25])], [(1, .env 1 0), (2, .env 2 0)]⟩)]
noncomputable def stepb32_4 : Int × Int × Int × (Nat → Int) × (Nat → Int) → Option ((Int × Int × Int × (Nat → Int) × (Nat → Int)) ⊕ ((Int × Int × (Nat → Int) × (Nat → Int))))
  | (t3, t13, t17, r1, r2) =>
    if (decide (t13 < 25)) = true then
      if (0 : Int) ≤ t13 ∧ t13 ≤ (IntKind.i64.wrap (t13 + 5)) ∧ (IntKind.i64.wrap (t13 + 5)) ≤ ((25 : Int) : Int) then
        if (5 : Int) ≤ ((((IntKind.i64.wrap (t13 + 5)).toNat - t13.toNat) : Nat) : Int) then
          (loopO stepb32_5 (t3, t13, t17, 0, r1, r2, (fun j => r1 (t13.toNat + j)))).bind fun (z25, z26, z27, z28, z29) =>
            some (.inl (z25, (IntKind.i64.wrap (z26 + 5)), z27, z28, z29))
        else none
      else none
    else
      some (.inr (t3, t17, r1, r2))

noncomputable def annb32_4 : Ann := (.seq .none (.seq (.seq (.seq .none (.seq .none (.seq (.cut (cutEnt lb32_5 ob32_5 (loopO (stepb32_5)))) .none))) .none) .none))
abbrev lb32_6 : Lay := ⟨[(1, .ptr 1 0 25), (2, .ptr 2 0 25)], [.env 3 (.c (.int .u8)), .env 17 (.c (.int .i64)), .env 121 (.c (.int .i64)), .reg 1 (.cells [.ints .u64 25]), .reg 2 (.cells [.ints .u64 25])], [(1, .env 1 0), (2, .env 2 0)]⟩
abbrev ob32_6 : List (AExit × Lay) := [(.exit 12, ⟨[(1, .ptr 1 0 25), (2, .ptr 2 0 25)], [.env 3 (.c (.int .u8)), .env 17 (.c (.int .i64)), .reg 1 (.cells [.ints .u64 25]), .reg 2 (.cells [.ints .u64 25])], [(1, .env 1 0), (2, .env 2 0)]⟩)]
noncomputable def stepb32_6 : Int × Int × Int × (Nat → Int) × (Nat → Int) → Option ((Int × Int × Int × (Nat → Int) × (Nat → Int)) ⊕ ((Int × Int × (Nat → Int) × (Nat → Int))))
  | (t3, t17, t121, r1, r2) =>
    if (decide (t121 < 7)) = true then
      if 0 ≤ t121 then
        if 0 ≤ (IntKind.u64.wrap ((shlI .u64 1 t121) - 1)) then
          let x34 : Int := (shlI .u64 (IntKind.u64.wrap (bitsAnd .u8 t3 1)) (IntKind.u64.wrap ((shlI .u64 1 t121) - 1)))
          let x35 : Int := (bitsXor .u8 (shlI .u8 t3 1) (IntKind.u8.wrap ((shrI .u8 t3 7) * 113)))
          some (.inl (x35, t17, (IntKind.i64.wrap (t121 + 1)), (upd r1 0 (bitsXor .u64 (r1 0) x34)), r2))
        else none
      else none
    else
      some (.inr (t3, t17, r1, r2))

noncomputable def annb32_6 : Ann := .none
abbrev lb32_0 : Lay := ⟨[(1, .ptr 1 0 25), (2, .ptr 2 0 25)], [.env 3 (.c (.int .u8)), .env 17 (.c (.int .i64)), .reg 1 (.cells [.ints .u64 25]), .reg 2 (.cells [.ints .u64 25])], [(1, .env 1 0), (2, .env 2 0)]⟩
abbrev ob32_0 : List (AExit × Lay) := [(.exit 0, ⟨[(1, .ptr 1 0 25), (2, .ptr 2 0 25)], [.reg 1 (.cells [.ints .u64 25]), .reg 2 (.cells [.ints .u64 25])], [(1, .env 1 0), (2, .env 2 0)]⟩)]
noncomputable def stepb32_0 : Int × Int × (Nat → Int) × (Nat → Int) → Option ((Int × Int × (Nat → Int) × (Nat → Int)) ⊕ (((Nat → Int) × (Nat → Int))))
  | (t3, t17, r1, r2) =>
    if (decide (t17 < 24)) = true then
      (loopO stepb32_1 (t3, t17, r1, 0, r1, r2, (fun _ => 0))).bind fun (z2, z3, z4, z5, z6) =>
        (loopO stepb32_2 (z2, z3, 0, z4, z5, z6)).bind fun (z9, z10, z11, z12) =>
          (loopO stepb32_3 (z9, 1, 0, (z11 1), z10, 0, z11, z12)).bind fun (z18, z19, z20, z21) =>
            (loopO stepb32_4 (z18, 0, z19, z20, z21)).bind fun (z30, z31, z32, z33) =>
              (loopO stepb32_6 (z30, z31, 0, z32, z33)).bind fun (z36, z37, z38, z39) =>
                some (.inl (z36, (IntKind.i64.wrap (z37 + 1)), z38, z39))
    else
      some (.inr (r1, r2))

noncomputable def annb32_0 : Ann := (.seq .none (.seq .none (.seq (.seq (.seq .none (.seq (.seq .none (.seq (.cut (cutEnt lb32_1 ob32_1 (loopO (stepb32_1)))) .none)) (.seq (.seq .none (.seq (.cut (cutEnt lb32_2 ob32_2 (loopO (stepb32_2)))) .none)) (.seq .none (.seq .none (.seq (.seq .none (.seq (.cut (cutEnt lb32_3 ob32_3 (loopO (stepb32_3)))) .none)) (.seq (.seq .none (.seq (.cut (cutEnt lb32_4 ob32_4 (loopO (stepb32_4)))) .none)) (.seq .none (.seq (.cut (cutEnt lb32_6 ob32_6 (loopO (stepb32_6)))) .none))))))))) .none) .none)))
noncomputable def Fb32 : (Nat → Int) → Option (((Nat → Int)))
  | a0 =>
    (loopO stepb32_0 (1, 0, a0, (fun _ => 0))).bind fun (z40, z41) =>
      some z40

noncomputable def annb32 : Ann := (.seq .none (.seq .none (.seq (.seq .none (.seq (.cut (cutEnt lb32_0 ob32_0 (loopO (stepb32_0)))) .none)) .none)))
theorem eqb32_1 : ∀ s : lb32_1.T, exec btab (ofL Eb33) 144 (Code.at' [1, 1, 0, 1, 0, 0, 1, 1, 0, 0, 1, 0, 1, 0, 0] bodyb32) annb32_1 (fun e st => loopEnd (l := lb32_1) (outs := ob32_1) e st) (lb32_1.enc s) = stepb32_1 s := by
  rintro ⟨t3, t17, t19, t20, r1, r2, r4⟩
  kernel_rfl
theorem okb32_1 : LOk Go.Proofs.Try.prog 144 (cutEnt lb32_1 ob32_1 (loopO stepb32_1)) (Code.at' [1, 1, 0, 1, 0, 0, 1, 1, 0, 0, 1, 0, 1, 0] bodyb32) := by
  have e : Code.at' [1, 1, 0, 1, 0, 0, 1, 1, 0, 0, 1, 0, 1, 0] bodyb32 = .loop (Code.at' [1, 1, 0, 1, 0, 0, 1, 1, 0, 0, 1, 0, 1, 0, 0] bodyb32) := by kernel_rfl
  rw [e]
  refine loop_ok cb32 144 rfl rfl (annOk_of_cuts ?_) eqb32_1
  intro x hx
  exact absurd hx (by show x ∉ ([] : List (List Nat × LEnt)); simp)

theorem eqb32_2 : ∀ s : lb32_2.T, exec btab (ofL Eb33) 144 (Code.at' [1, 1, 0, 1, 0, 0, 1, 1, 0, 0, 1, 1, 0, 1, 0, 0] bodyb32) annb32_2 (fun e st => loopEnd (l := lb32_2) (outs := ob32_2) e st) (lb32_2.enc s) = stepb32_2 s := by
  rintro ⟨t3, t17, t32, r1, r2, r4⟩
  kernel_rfl
theorem okb32_2 : LOk Go.Proofs.Try.prog 144 (cutEnt lb32_2 ob32_2 (loopO stepb32_2)) (Code.at' [1, 1, 0, 1, 0, 0, 1, 1, 0, 0, 1, 1, 0, 1, 0] bodyb32) := by
  have e : Code.at' [1, 1, 0, 1, 0, 0, 1, 1, 0, 0, 1, 1, 0, 1, 0] bodyb32 = .loop (Code.at' [1, 1, 0, 1, 0, 0, 1, 1, 0, 0, 1, 1, 0, 1, 0, 0] bodyb32) := by kernel_rfl
  rw [e]
  refine loop_ok cb32 144 rfl rfl (annOk_of_cuts ?_) eqb32_2
  intro x hx
  exact absurd hx (by show x ∉ ([] : List (List Nat × LEnt)); simp)

theorem eqb32_3 : ∀ s : lb32_3.T, exec btab (ofL Eb33) 144 (Code.at' [1, 1, 0, 1, 0, 0, 1, 1, 0, 0, 1, 1, 1, 1, 1, 0, 1, 0, 0] bodyb32) annb32_3 (fun e st => loopEnd (l := lb32_3) (outs := ob32_3) e st) (lb32_3.enc s) = stepb32_3 s := by
  rintro ⟨t3, t8, t9, t10, t17, t55, r1, r2⟩
  kernel_rfl
theorem okb32_3 : LOk Go.Proofs.Try.prog 144 (cutEnt lb32_3 ob32_3 (loopO stepb32_3)) (Code.at' [1, 1, 0, 1, 0, 0, 1, 1, 0, 0, 1, 1, 1, 1, 1, 0, 1, 0] bodyb32) := by
  have e : Code.at' [1, 1, 0, 1, 0, 0, 1, 1, 0, 0, 1, 1, 1, 1, 1, 0, 1, 0] bodyb32 = .loop (Code.at' [1, 1, 0, 1, 0, 0, 1, 1, 0, 0, 1, 1, 1, 1, 1, 0, 1, 0, 0] bodyb32) := by kernel_rfl
  rw [e]
  refine loop_ok cb32 144 rfl rfl (annOk_of_cuts ?_) eqb32_3
  intro x hx
  exact absurd hx (by show x ∉ ([] : List (List Nat × LEnt)); simp)

theorem eqb32_5 : ∀ s : lb32_5.T, exec btab (ofL Eb33) 144 (Code.at' [1, 1, 0, 1, 0, 0, 1, 1, 0, 0, 1, 1, 1, 1, 1, 1, 0, 1, 0, 0, 1, 0, 0, 1, 1, 0, 0] bodyb32) annb32_5 (fun e st => loopEnd (l := lb32_5) (outs := ob32_5) e st) (lb32_5.enc s) = stepb32_5 s := by
  rintro ⟨t3, t13, t17, t97, r1, r2, r14⟩
  kernel_rfl
theorem okb32_5 : LOk Go.Proofs.Try.prog 144 (cutEnt lb32_5 ob32_5 (loopO stepb32_5)) (Code.at' [1, 1, 0, 1, 0, 0, 1, 1, 0, 0, 1, 1, 1, 1, 1, 1, 0, 1, 0, 0, 1, 0, 0, 1, 1, 0] bodyb32) := by
  have e : Code.at' [1, 1, 0, 1, 0, 0, 1, 1, 0, 0, 1, 1, 1, 1, 1, 1, 0, 1, 0, 0, 1, 0, 0, 1, 1, 0] bodyb32 = .loop (Code.at' [1, 1, 0, 1, 0, 0, 1, 1, 0, 0, 1, 1, 1, 1, 1, 1, 0, 1, 0, 0, 1, 0, 0, 1, 1, 0, 0] bodyb32) := by kernel_rfl
  rw [e]
  refine loop_ok cb32 144 rfl rfl (annOk_of_cuts ?_) eqb32_5
  intro x hx
  exact absurd hx (by show x ∉ ([] : List (List Nat × LEnt)); simp)

theorem eqb32_4 : ∀ s : lb32_4.T, exec btab (ofL Eb33) 144 (Code.at' [1, 1, 0, 1, 0, 0, 1, 1, 0, 0, 1, 1, 1, 1, 1, 1, 0, 1, 0, 0] bodyb32) annb32_4 (fun e st => loopEnd (l := lb32_4) (outs := ob32_4) e st) (lb32_4.enc s) = stepb32_4 s := by
  rintro ⟨t3, t13, t17, r1, r2⟩
  kernel_rfl
theorem okb32_4 : LOk Go.Proofs.Try.prog 144 (cutEnt lb32_4 ob32_4 (loopO stepb32_4)) (Code.at' [1, 1, 0, 1, 0, 0, 1, 1, 0, 0, 1, 1, 1, 1, 1, 1, 0, 1, 0] bodyb32) := by
  have e : Code.at' [1, 1, 0, 1, 0, 0, 1, 1, 0, 0, 1, 1, 1, 1, 1, 1, 0, 1, 0] bodyb32 = .loop (Code.at' [1, 1, 0, 1, 0, 0, 1, 1, 0, 0, 1, 1, 1, 1, 1, 1, 0, 1, 0, 0] bodyb32) := by kernel_rfl
  rw [e]
  refine loop_ok cb32 144 rfl rfl (annOk_of_cuts ?_) eqb32_4
  have hc : Ann.cuts annb32_4 = [([1, 0, 0, 1, 1, 0], (cutEnt lb32_5 ob32_5 (loopO (stepb32_5))))] := by kernel_rfl
  rw [hc]
  intro x hx
  simp only [List.mem_cons, List.not_mem_nil, or_false] at hx
  rcases hx with rfl
  · have e : Code.at' [1, 0, 0, 1, 1, 0] (Code.at' [1, 1, 0, 1, 0, 0, 1, 1, 0, 0, 1, 1, 1, 1, 1, 1, 0, 1, 0, 0] bodyb32) = Code.at' [1, 1, 0, 1, 0, 0, 1, 1, 0, 0, 1, 1, 1, 1, 1, 1, 0, 1, 0, 0, 1, 0, 0, 1, 1, 0] bodyb32 := by kernel_rfl
    rw [e]; exact okb32_5

theorem eqb32_6 : ∀ s : lb32_6.T, exec btab (ofL Eb33) 144 (Code.at' [1, 1, 0, 1, 0, 0, 1, 1, 0, 0, 1, 1, 1, 1, 1, 1, 1, 1, 0, 0] bodyb32) annb32_6 (fun e st => loopEnd (l := lb32_6) (outs := ob32_6) e st) (lb32_6.enc s) = stepb32_6 s := by
  rintro ⟨t3, t17, t121, r1, r2⟩
  kernel_rfl
theorem okb32_6 : LOk Go.Proofs.Try.prog 144 (cutEnt lb32_6 ob32_6 (loopO stepb32_6)) (Code.at' [1, 1, 0, 1, 0, 0, 1, 1, 0, 0, 1, 1, 1, 1, 1, 1, 1, 1, 0] bodyb32) := by
  have e : Code.at' [1, 1, 0, 1, 0, 0, 1, 1, 0, 0, 1, 1, 1, 1, 1, 1, 1, 1, 0] bodyb32 = .loop (Code.at' [1, 1, 0, 1, 0, 0, 1, 1, 0, 0, 1, 1, 1, 1, 1, 1, 1, 1, 0, 0] bodyb32) := by kernel_rfl
  rw [e]
  refine loop_ok cb32 144 rfl rfl (annOk_of_cuts ?_) eqb32_6
  intro x hx
  exact absurd hx (by show x ∉ ([] : List (List Nat × LEnt)); simp)

theorem eqb32_0 : ∀ s : lb32_0.T, exec btab (ofL Eb33) 144 (Code.at' [1, 1, 0, 1, 0, 0] bodyb32) annb32_0 (fun e st => loopEnd (l := lb32_0) (outs := ob32_0) e st) (lb32_0.enc s) = stepb32_0 s := by
  rintro ⟨t3, t17, r1, r2⟩
  kernel_rfl
theorem okb32_0 : LOk Go.Proofs.Try.prog 144 (cutEnt lb32_0 ob32_0 (loopO stepb32_0)) (Code.at' [1, 1, 0, 1, 0] bodyb32) := by
  have e : Code.at' [1, 1, 0, 1, 0] bodyb32 = .loop (Code.at' [1, 1, 0, 1, 0, 0] bodyb32) := by kernel_rfl
  rw [e]
  refine loop_ok cb32 144 rfl rfl (annOk_of_cuts ?_) eqb32_0
  have hc : Ann.cuts annb32_0 = [([1, 1, 0, 0, 1, 0, 1, 0], (cutEnt lb32_1 ob32_1 (loopO (stepb32_1)))), ([1, 1, 0, 0, 1, 1, 0, 1, 0], (cutEnt lb32_2 ob32_2 (loopO (stepb32_2)))), ([1, 1, 0, 0, 1, 1, 1, 1, 1, 0, 1, 0], (cutEnt lb32_3 ob32_3 (loopO (stepb32_3)))), ([1, 1, 0, 0, 1, 1, 1, 1, 1, 1, 0, 1, 0], (cutEnt lb32_4 ob32_4 (loopO (stepb32_4)))), ([1, 1, 0, 0, 1, 1, 1, 1, 1, 1, 1, 1, 0], (cutEnt lb32_6 ob32_6 (loopO (stepb32_6))))] := by kernel_rfl
  rw [hc]
  intro x hx
  simp only [List.mem_cons, List.not_mem_nil, or_false] at hx
  rcases hx with rfl | rfl | rfl | rfl | rfl
  · have e : Code.at' [1, 1, 0, 0, 1, 0, 1, 0] (Code.at' [1, 1, 0, 1, 0, 0] bodyb32) = Code.at' [1, 1, 0, 1, 0, 0, 1, 1, 0, 0, 1, 0, 1, 0] bodyb32 := by kernel_rfl
    rw [e]; exact okb32_1
  · have e : Code.at' [1, 1, 0, 0, 1, 1, 0, 1, 0] (Code.at' [1, 1, 0, 1, 0, 0] bodyb32) = Code.at' [1, 1, 0, 1, 0, 0, 1, 1, 0, 0, 1, 1, 0, 1, 0] bodyb32 := by kernel_rfl
    rw [e]; exact okb32_2
  · have e : Code.at' [1, 1, 0, 0, 1, 1, 1, 1, 1, 0, 1, 0] (Code.at' [1, 1, 0, 1, 0, 0] bodyb32) = Code.at' [1, 1, 0, 1, 0, 0, 1, 1, 0, 0, 1, 1, 1, 1, 1, 0, 1, 0] bodyb32 := by kernel_rfl
    rw [e]; exact okb32_3
  · have e : Code.at' [1, 1, 0, 0, 1, 1, 1, 1, 1, 1, 0, 1, 0] (Code.at' [1, 1, 0, 1, 0, 0] bodyb32) = Code.at' [1, 1, 0, 1, 0, 0, 1, 1, 0, 0, 1, 1, 1, 1, 1, 1, 0, 1, 0] bodyb32 := by kernel_rfl
    rw [e]; exact okb32_4
  · have e : Code.at' [1, 1, 0, 0, 1, 1, 1, 1, 1, 1, 1, 1, 0] (Code.at' [1, 1, 0, 1, 0, 0] bodyb32) = Code.at' [1, 1, 0, 1, 0, 0, 1, 1, 0, 0, 1, 1, 1, 1, 1, 1, 1, 1, 0] bodyb32 := by kernel_rfl
    rw [e]; exact okb32_6

theorem eqb32 : ∀ x : Sb32.inT, exec btab (ofL Eb33) 144 bodyb32 annb32 (finL btab Sb32) (Sb32.inp.enc x) = Fb32 x := by
  intro x
  kernel_rfl
theorem callsb32 : CallsL Go.Proofs.Try.prog 32 Sb32 Fb32 := by
  refine fun_callsL (fn := Go.Proofs.Try.f32) (c := bodyb32) (ann := annb32) cb32 (by kernel_rfl) (by kernel_rfl) (by kernel_rfl) (by kernel_rfl) (by kernel_rfl) (annOk_of_cuts ?_) eqb32
  have hc : Ann.cuts annb32 = [([1, 1, 0, 1, 0], (cutEnt lb32_0 ob32_0 (loopO (stepb32_0))))] := by kernel_rfl
  rw [hc]
  intro x hx
  simp only [List.mem_cons, List.not_mem_nil, or_false] at hx
  rcases hx with rfl
  · have e : Code.at' [1, 1, 0, 1, 0] bodyb32 = Code.at' [1, 1, 0, 1, 0] bodyb32 := by kernel_rfl
    rw [e]; exact okb32_0

theorem entb32 : EntOk Go.Proofs.Try.prog 32 (funEntL Sb32 true Fb32) := fun_okL (fn := Go.Proofs.Try.f32) (c := bodyb32) (by kernel_rfl) (by kernel_rfl) (by kernel_rfl) (by kernel_rfl) callsb32
noncomputable def Eb32 : List (Nat × Ent) := (32, funEntL Sb32 true Fb32) :: Eb33
theorem Eb32_ok : EntsOk Go.Proofs.Try.prog (ofL Eb32) := .cons entb32 Eb33_ok

/-! ### (*barbican/keccak.Sponge).Write -/
noncomputable def bodyb28 : Code := (Go.Proofs.Try.f28.body).getD .skip
abbrev Sb28 : FL := ⟨⟨[(0, .ptr 1000000 0 29)], [.reg 1000000 (.cells [.int .i64, .ints .u64 25, .int .i64, .bool, .int .i64]), .env 1 (.c (.fz (.int .u8)))], [(1000000, .env 0 0)]⟩, 2, [(.ret, ⟨[], [.env 0 (.c (.int .i64)), .reg 1000000 (.cells [.int .i64, .ints .u64 25, .int .i64, .bool, .int .i64])], []⟩)], [.tmp 4], false⟩
noncomputable def cb28 : Ctx Go.Proofs.Try.prog := ⟨btab, ofL Eb32, btabOk, Eb32_ok, bdep, bord⟩
abbrev lb28_0 : Lay := ⟨[(0, .ptr 1000000 0 29)], [.env 15 (.c (.fz (.int .u8))), .env 16 (.c (.int .i64)), .env 17 (.c (.int .i64)), .reg 1000000 (.cells [.int .i64, .ints .u64 25, .int .i64, .bool, .int .i64])], []⟩
abbrev ob28_0 : List (AExit × Lay) := [(.exit 1, ⟨[], [.reg 1000000 (.cells [.int .i64, .ints .u64 25, .int .i64, .bool, .int .i64])], []⟩)]
noncomputable def stepb28_0 : (List Int) × Int × Int × (Int × (Nat → Int) × Int × Bool × Int) → Option (((List Int) × Int × Int × (Int × (Nat → Int) × Int × Bool × Int)) ⊕ ((Int × (Nat → Int) × Int × Bool × Int)))
  | (t15, t16, t17, r1000000) =>
    if (decide (t17 < t16)) = true then
      if (0 : Int) ≤ t17 ∧ t17 < (t15.length : Int) then
        (Fb31 ((r1000000.1, r1000000.2.1, r1000000.2.2.1, r1000000.2.2.2.1, r1000000.2.2.2.2), r1000000.2.2.1, (t15.getD t17.toNat 0))).bind fun y1 =>
          if 0 ≤ y1.1 ∧ y1.1 < (bstr1.size : Int) then
            let x2 : Bool := ((IntKind.i64.wrap (y1.2.2.1 + 1)) == (IntKind.i64.wrap (strAt bstr1 y1.1)))
            if x2 = true then
              (Fb32 y1.2.1).bind fun y3 =>
                some (.inl (t15, t16, (IntKind.i64.wrap (t17 + 1)), (y1.1, y3, 0, y1.2.2.2.1, y1.2.2.2.2)))
            else
              some (.inl (t15, t16, (IntKind.i64.wrap (t17 + 1)), (y1.1, y1.2.1, (IntKind.i64.wrap (y1.2.2.1 + 1)), y1.2.2.2.1, y1.2.2.2.2)))
          else none
      else none
    else
      some (.inr (r1000000.1, r1000000.2.1, r1000000.2.2.1, r1000000.2.2.2.1, r1000000.2.2.2.2))

noncomputable def annb28_0 : Ann := .none
noncomputable def Fb28 : (Int × (Nat → Int) × Int × Bool × Int) × (List Int) → Option ((Int × (Int × (Nat → Int) × Int × Bool × Int)))
  | (io, a1) =>
    if io.2.2.2.1 = true then
      some (32, (io.1, io.2.1, io.2.2.1, io.2.2.2.1, io.2.2.2.2))
    else
      (loopO stepb28_0 (a1, (a1.length : Int), 0, (io.1, io.2.1, io.2.2.1, io.2.2.2.1, io.2.2.2.2))).bind fun z4 =>
        some (0, (z4.1, z4.2.1, z4.2.2.1, z4.2.2.2.1, z4.2.2.2.2))

noncomputable def annb28 : Ann := (.seq .none (.seq .none (.seq (.seq .none (.seq (.cut (cutEnt lb28_0 ob28_0 (loopO (stepb28_0)))) .none)) .none)))
theorem eqb28_0 : ∀ s : lb28_0.T, exec btab (ofL Eb32) 58 (Code.at' [1, 1, 0, 1, 0, 0] bodyb28) annb28_0 (fun e st => loopEnd (l := lb28_0) (outs := ob28_0) e st) (lb28_0.enc s) = stepb28_0 s := by
  rintro ⟨t15, t16, t17, r1000000⟩
  kernel_rfl
theorem okb28_0 : LOk Go.Proofs.Try.prog 58 (cutEnt lb28_0 ob28_0 (loopO stepb28_0)) (Code.at' [1, 1, 0, 1, 0] bodyb28) := by
  have e : Code.at' [1, 1, 0, 1, 0] bodyb28 = .loop (Code.at' [1, 1, 0, 1, 0, 0] bodyb28) := by kernel_rfl
  rw [e]
  refine loop_ok cb28 58 rfl rfl (annOk_of_cuts ?_) eqb28_0
  intro x hx
  exact absurd hx (by show x ∉ ([] : List (List Nat × LEnt)); simp)

theorem eqb28 : ∀ x : Sb28.inT, exec btab (ofL Eb32) 58 bodyb28 annb28 (finL btab Sb28) (Sb28.inp.enc x) = Fb28 x := by
  rintro ⟨io, a1⟩
  kernel_rfl
theorem callsb28 : CallsL Go.Proofs.Try.prog 28 Sb28 Fb28 := by
  refine fun_callsL (fn := Go.Proofs.Try.f28) (c := bodyb28) (ann := annb28) cb28 (by kernel_rfl) (by kernel_rfl) (by kernel_rfl) (by kernel_rfl) (by kernel_rfl) (annOk_of_cuts ?_) eqb28
  have hc : Ann.cuts annb28 = [([1, 1, 0, 1, 0], (cutEnt lb28_0 ob28_0 (loopO (stepb28_0))))] := by kernel_rfl
  rw [hc]
  intro x hx
  simp only [List.mem_cons, List.not_mem_nil, or_false] at hx
  rcases hx with rfl
  · have e : Code.at' [1, 1, 0, 1, 0] bodyb28 = Code.at' [1, 1, 0, 1, 0] bodyb28 := by kernel_rfl
    rw [e]; exact okb28_0

theorem entb28 : EntOk Go.Proofs.Try.prog 28 (funEntL Sb28 true Fb28) := fun_okL (fn := Go.Proofs.Try.f28) (c := bodyb28) (by kernel_rfl) (by kernel_rfl) (by kernel_rfl) (by kernel_rfl) callsb28
noncomputable def Eb28 : List (Nat × Ent) := (28, funEntL Sb28 true Fb28) :: Eb32
theorem Eb28_ok : EntsOk Go.Proofs.Try.prog (ofL Eb28) := .cons entb28 Eb32_ok

/-! ### (*barbican/keccak.Sponge).Read -/
noncomputable def bodyb30 : Code := (Go.Proofs.Try.f30.body).getD .skip
abbrev Sb30 : FL := ⟨⟨[(0, .ptr 1000000 0 29)], [.reg 1000000 (.cells [.int .i64, .ints .u64 25, .int .i64, .bool, .int .i64]), .env 1 (.c (.int .i64))], [(1000000, .env 0 0)]⟩, 2, [(.ret, ⟨[(0, .full 1)], [.reg 1 (.row 5 .u8), .env 1 (.c (.int .i64)), .reg 1000000 (.cells [.int .i64, .ints .u64 25, .int .i64, .bool, .int .i64])], [(1, .env 0 0)]⟩)], [.tmp 4, .tmp 5], false⟩
noncomputable def cb30 : Ctx Go.Proofs.Try.prog := ⟨btab, ofL Eb28, btabOk, Eb28_ok, bdep, bord⟩
abbrev lb30_0 : Lay := ⟨[(0, .ptr 1000000 0 29), (7, .full 75)], [.env 1 (.c (.int .i64)), .env 6 (.c (.int .i64)), .env 77 (.c (.int .i64)), .env 78 (.c (.int .i64)), .reg 1000000 (.cells [.int .i64, .ints .u64 25, .int .i64, .bool, .int .i64]), .reg 75 (.row 5 .u8)], [(75, .env 7 0)]⟩
abbrev ob30_0 : List (AExit × Lay) := [(.exit 1, ⟨[(0, .ptr 1000000 0 29), (7, .full 75)], [.env 1 (.c (.int .i64)), .reg 1000000 (.cells [.int .i64, .ints .u64 25, .int .i64, .bool, .int .i64]), .reg 75 (.row 5 .u8)], [(75, .env 7 0)]⟩)]
noncomputable def stepb30_0 : Int × Int × Int × Int × (Int × (Nat → Int) × Int × Bool × Int) × List Int → Option ((Int × Int × Int × Int × (Int × (Nat → Int) × Int × Bool × Int) × List Int) ⊕ ((Int × (Int × (Nat → Int) × Int × Bool × Int) × List Int)))
  | (t1, t6, t77, t78, r1000000, r75) =>
    if (decide (t78 < t77)) = true then
      if (r1000000.2.2.1 == t6) = true then
        (Fb32 r1000000.2.1).bind fun y5 =>
          if (0 : Int) ≤ (IntKind.i64.wrap ((0 : Int).tdiv 8)) ∧ (IntKind.i64.wrap ((0 : Int).tdiv 8)) < ((25 : Int) : Int) then
            if 0 ≤ (IntKind.i64.wrap (8 * ((0 : Int).tmod 8))) then
              let x6 : Int := (shrI .u64 (y5 (IntKind.i64.wrap ((0 : Int).tdiv 8)).toNat) (IntKind.i64.wrap (8 * ((0 : Int).tmod 8))))
              if (0 : Int) ≤ t78 ∧ t78 < (r75.length : Int) then
                some (.inl (t1, t6, t77, (IntKind.i64.wrap (t78 + 1)), (r1000000.1, y5, 1, r1000000.2.2.2.1, r1000000.2.2.2.2), (r75.set t78.toNat (IntKind.u8.wrap x6))))
              else none
            else none
          else none
      else
        if (0 : Int) ≤ (IntKind.i64.wrap (r1000000.2.2.1.tdiv 8)) ∧ (IntKind.i64.wrap (r1000000.2.2.1.tdiv 8)) < ((25 : Int) : Int) then
          let x7 : Int := (r1000000.2.1 (IntKind.i64.wrap (r1000000.2.2.1.tdiv 8)).toNat)
          if 0 ≤ (IntKind.i64.wrap (8 * (r1000000.2.2.1.tmod 8))) then
            let x8 : Int := (shrI .u64 x7 (IntKind.i64.wrap (8 * (r1000000.2.2.1.tmod 8))))
            if (0 : Int) ≤ t78 ∧ t78 < (r75.length : Int) then
              some (.inl (t1, t6, t77, (IntKind.i64.wrap (t78 + 1)), (r1000000.1, r1000000.2.1, (IntKind.i64.wrap (r1000000.2.2.1 + 1)), r1000000.2.2.2.1, r1000000.2.2.2.2), (r75.set t78.toNat (IntKind.u8.wrap x8))))
            else none
          else none
        else none
    else
      some (.inr (t1, (r1000000.1, r1000000.2.1, r1000000.2.2.1, r1000000.2.2.2.1, r1000000.2.2.2.2), r75))

noncomputable def annb30_0 : Ann := .none
noncomputable def Fb30 : (Int × (Nat → Int) × Int × Bool × Int) × Int → Option ((List Int × Int × (Int × (Nat → Int) × Int × Bool × Int)))
  | (io, a1) =>
    if (decide (a1 < 0)) = false then
      if (decide (a1 > 65536)) = true then
        some (([] : List Int), 1, (io.1, io.2.1, io.2.2.1, io.2.2.2.1, io.2.2.2.2))
      else
        if (decide (io.2.2.2.2 ≥ 0)) = true then
          if (decide (a1 > io.2.2.2.2)) = true then
            some (([] : List Int), 33, (io.1, io.2.1, io.2.2.1, io.2.2.2.1, io.2.2.2.2))
          else
            if 0 ≤ io.1 ∧ io.1 < (bstr1.size : Int) then
              if (!io.2.2.2.1) = true then
                if 0 ≤ io.1 ∧ io.1 < (bstr2.size : Int) then
                  (Fb31 ((io.1, io.2.1, io.2.2.1, io.2.2.2.1, io.2.2.2.2), io.2.2.1, (strAt bstr2 io.1))).bind fun y1 =>
                    let x2 : Int := (IntKind.i64.wrap ((IntKind.i64.wrap (strAt bstr1 io.1)) - 1))
                    (Fb31 ((y1.1, y1.2.1, y1.2.2.1, y1.2.2.2.1, y1.2.2.2.2), x2, 128)).bind fun y3 =>
                      (Fb32 y3.2.1).bind fun y4 =>
                        if 0 ≤ a1 ∧ a1 ≤ a1 ∧ okBytes a1.toNat 1 then
                          (loopO stepb30_0 (a1, (IntKind.i64.wrap (strAt bstr1 io.1)), ((List.replicate a1.toNat (0 : Int)).length : Int), 0, (y3.1, y4, 0, true, y3.2.2.2.2), (List.replicate a1.toNat (0 : Int)))).bind fun (z9, z10, z11) =>
                            if (decide (z10.2.2.2.2 ≥ 0)) = true then
                              some (z11, 0, (z10.1, z10.2.1, z10.2.2.1, z10.2.2.2.1, (IntKind.i64.wrap (z10.2.2.2.2 - z9))))
                            else
                              some (z11, 0, (z10.1, z10.2.1, z10.2.2.1, z10.2.2.2.1, z10.2.2.2.2))
                        else none
                else none
              else
                if 0 ≤ a1 ∧ a1 ≤ a1 ∧ okBytes a1.toNat 1 then
                  (loopO stepb30_0 (a1, (IntKind.i64.wrap (strAt bstr1 io.1)), ((List.replicate a1.toNat (0 : Int)).length : Int), 0, (io.1, io.2.1, io.2.2.1, io.2.2.2.1, io.2.2.2.2), (List.replicate a1.toNat (0 : Int)))).bind fun (z12, z13, z14) =>
                    if (decide (z13.2.2.2.2 ≥ 0)) = true then
                      some (z14, 0, (z13.1, z13.2.1, z13.2.2.1, z13.2.2.2.1, (IntKind.i64.wrap (z13.2.2.2.2 - z12))))
                    else
                      some (z14, 0, (z13.1, z13.2.1, z13.2.2.1, z13.2.2.2.1, z13.2.2.2.2))
                else none
            else none
        else
          if 0 ≤ io.1 ∧ io.1 < (bstr1.size : Int) then
            if (!io.2.2.2.1) = true then
              if 0 ≤ io.1 ∧ io.1 < (bstr2.size : Int) then
                (Fb31 ((io.1, io.2.1, io.2.2.1, io.2.2.2.1, io.2.2.2.2), io.2.2.1, (strAt bstr2 io.1))).bind fun y15 =>
                  let x16 : Int := (IntKind.i64.wrap ((IntKind.i64.wrap (strAt bstr1 io.1)) - 1))
                  (Fb31 ((y15.1, y15.2.1, y15.2.2.1, y15.2.2.2.1, y15.2.2.2.2), x16, 128)).bind fun y17 =>
                    (Fb32 y17.2.1).bind fun y18 =>
                      if 0 ≤ a1 ∧ a1 ≤ a1 ∧ okBytes a1.toNat 1 then
                        (loopO stepb30_0 (a1, (IntKind.i64.wrap (strAt bstr1 io.1)), ((List.replicate a1.toNat (0 : Int)).length : Int), 0, (y17.1, y18, 0, true, y17.2.2.2.2), (List.replicate a1.toNat (0 : Int)))).bind fun (z19, z20, z21) =>
                          if (decide (z20.2.2.2.2 ≥ 0)) = true then
                            some (z21, 0, (z20.1, z20.2.1, z20.2.2.1, z20.2.2.2.1, (IntKind.i64.wrap (z20.2.2.2.2 - z19))))
                          else
                            some (z21, 0, (z20.1, z20.2.1, z20.2.2.1, z20.2.2.2.1, z20.2.2.2.2))
                      else none
              else none
            else
              if 0 ≤ a1 ∧ a1 ≤ a1 ∧ okBytes a1.toNat 1 then
                (loopO stepb30_0 (a1, (IntKind.i64.wrap (strAt bstr1 io.1)), ((List.replicate a1.toNat (0 : Int)).length : Int), 0, (io.1, io.2.1, io.2.2.1, io.2.2.2.1, io.2.2.2.2), (List.replicate a1.toNat (0 : Int)))).bind fun (z22, z23, z24) =>
                  if (decide (z23.2.2.2.2 ≥ 0)) = true then
                    some (z24, 0, (z23.1, z23.2.1, z23.2.2.1, z23.2.2.2.1, (IntKind.i64.wrap (z23.2.2.2.2 - z22))))
                  else
                    some (z24, 0, (z23.1, z23.2.1, z23.2.2.1, z23.2.2.2.1, z23.2.2.2.2))
              else none
          else none
    else
      some (([] : List Int), 1, (io.1, io.2.1, io.2.2.1, io.2.2.2.1, io.2.2.2.2))

noncomputable def annb30 : Ann := (.seq .none (.seq .none (.seq .none (.seq .none (.seq .none (.seq (.seq .none (.seq (.cut (cutEnt lb30_0 ob30_0 (loopO (stepb30_0)))) .none)) .none))))))
theorem eqb30_0 : ∀ s : lb30_0.T, exec btab (ofL Eb28) 141 (Code.at' [1, 1, 1, 1, 1, 0, 1, 0, 0] bodyb30) annb30_0 (fun e st => loopEnd (l := lb30_0) (outs := ob30_0) e st) (lb30_0.enc s) = stepb30_0 s := by
  rintro ⟨t1, t6, t77, t78, r1000000, r75⟩
  kernel_rfl
theorem okb30_0 : LOk Go.Proofs.Try.prog 141 (cutEnt lb30_0 ob30_0 (loopO stepb30_0)) (Code.at' [1, 1, 1, 1, 1, 0, 1, 0] bodyb30) := by
  have e : Code.at' [1, 1, 1, 1, 1, 0, 1, 0] bodyb30 = .loop (Code.at' [1, 1, 1, 1, 1, 0, 1, 0, 0] bodyb30) := by kernel_rfl
  rw [e]
  refine loop_ok cb30 141 rfl rfl (annOk_of_cuts ?_) eqb30_0
  intro x hx
  exact absurd hx (by show x ∉ ([] : List (List Nat × LEnt)); simp)

theorem eqb30 : ∀ x : Sb30.inT, exec btab (ofL Eb28) 141 bodyb30 annb30 (finL btab Sb30) (Sb30.inp.enc x) = Fb30 x := by
  rintro ⟨io, a1⟩
  kernel_rfl
theorem callsb30 : CallsL Go.Proofs.Try.prog 30 Sb30 Fb30 := by
  refine fun_callsL (fn := Go.Proofs.Try.f30) (c := bodyb30) (ann := annb30) cb30 (by kernel_rfl) (by kernel_rfl) (by kernel_rfl) (by kernel_rfl) (by kernel_rfl) (annOk_of_cuts ?_) eqb30
  have hc : Ann.cuts annb30 = [([1, 1, 1, 1, 1, 0, 1, 0], (cutEnt lb30_0 ob30_0 (loopO (stepb30_0))))] := by kernel_rfl
  rw [hc]
  intro x hx
  simp only [List.mem_cons, List.not_mem_nil, or_false] at hx
  rcases hx with rfl
  · have e : Code.at' [1, 1, 1, 1, 1, 0, 1, 0] bodyb30 = Code.at' [1, 1, 1, 1, 1, 0, 1, 0] bodyb30 := by kernel_rfl
    rw [e]; exact okb30_0

theorem entb30 : EntOk Go.Proofs.Try.prog 30 (funEntL Sb30 true Fb30) := fun_okL (fn := Go.Proofs.Try.f30) (c := bodyb30) (by kernel_rfl) (by kernel_rfl) (by kernel_rfl) (by kernel_rfl) callsb30
noncomputable def Eb30 : List (Nat × Ent) := (30, funEntL Sb30 true Fb30) :: Eb28
theorem Eb30_ok : EntsOk Go.Proofs.Try.prog (ofL Eb30) := .cons entb30 Eb28_ok

/-! ### barbican/pack.drawn$1 -/
noncomputable def bodyb29 : Code := (Go.Proofs.Try.f29.body).getD .skip
abbrev Sb29 : FL := ⟨⟨[(0, .ptr 1000000 0 1), (1, .ptr 1000001 0 1), (2, .ptr 1000002 0 1)], [.reg 1000000 (.cells [.int .i64]), .reg 1000001 (.cells [.fz (.int .u8)]), .reg 1000002 (.cells [.ptr 1000003 0 29]), .reg 1000003 (.cells [.int .i64, .ints .u64 25, .int .i64, .bool, .int .i64])], [(1000000, .env 0 0), (1000001, .env 1 0), (1000002, .env 2 0), (1000003, .reg 1000002 0)]⟩, 3, [(.ret, ⟨[], [.env 0 (.c (.int .u8)), .env 1 (.c (.bool)), .reg 1000000 (.cells [.int .i64]), .reg 1000001 (.cells [.fz (.int .u8)]), .reg 1000002 (.cells [.ptr 1 0 29]), .reg 1 (.cells [.int .i64, .ints .u64 25, .int .i64, .bool, .int .i64])], [(1, .reg 1000002 0)]⟩)], [.tmp 3, .tmp 4], true⟩
noncomputable def cb29 : Ctx Go.Proofs.Try.prog := ⟨btab, ofL Eb30, btabOk, Eb30_ok, bdep, bord⟩
noncomputable def Fb29 : Int × (List Int) × Unit × (Int × (Nat → Int) × Int × Bool × Int) → Option ((Int × Bool × Int × (List Int) × Unit × (Int × (Nat → Int) × Int × Bool × Int)))
  | (io, io1, io2, io3) =>
    if (io == 0) = true then
      some (0, false, io, io1, (), (io3.1, io3.2.1, io3.2.2.1, io3.2.2.2.1, io3.2.2.2.2))
    else
      if ((io1.length : Int) == 0) = true then
        (Fb30 ((io3.1, io3.2.1, io3.2.2.1, io3.2.2.2.1, io3.2.2.2.2), 168)).bind fun (y1, y2, y3) =>
          if (0 : Int) ≤ (0 : Int) ∧ (0 : Int) < (y1.length : Int) then
            if (0 : Int) ≤ (1 : Int) ∧ (1 : Int) ≤ (y1.length : Int) then
              some ((y1.getD 0 0), true, (IntKind.i64.wrap (io - 1)), ((y1.drop 1).take (y1.length - 1)), (), (y3.1, y3.2.1, y3.2.2.1, y3.2.2.2.1, y3.2.2.2.2))
            else none
          else none
      else
        if (0 : Int) ≤ (0 : Int) ∧ (0 : Int) < (io1.length : Int) then
          if (0 : Int) ≤ (1 : Int) ∧ (1 : Int) ≤ (io1.length : Int) then
            some ((io1.getD 0 0), true, (IntKind.i64.wrap (io - 1)), (io1.drop 1), (), (io3.1, io3.2.1, io3.2.2.1, io3.2.2.2.1, io3.2.2.2.2))
          else none
        else none

noncomputable def annb29 : Ann := .none
theorem eqb29 : ∀ x : Sb29.inT, exec btab (ofL Eb30) 24 bodyb29 annb29 (finL btab Sb29) (Sb29.inp.enc x) = Fb29 x := by
  rintro ⟨io, io1, io2, io3⟩
  kernel_rfl
theorem callsb29 : CallsL Go.Proofs.Try.prog 29 Sb29 Fb29 := by
  refine fun_callsL (fn := Go.Proofs.Try.f29) (c := bodyb29) (ann := annb29) cb29 (by kernel_rfl) (by kernel_rfl) (by kernel_rfl) (by kernel_rfl) (by kernel_rfl) (annOk_of_cuts ?_) eqb29
  intro x hx
  exact absurd hx (by show x ∉ ([] : List (List Nat × LEnt)); simp)

theorem entb29 : EntOk Go.Proofs.Try.prog 29 (funEntL Sb29 true Fb29) := fun_okL (fn := Go.Proofs.Try.f29) (c := bodyb29) (by kernel_rfl) (by kernel_rfl) (by kernel_rfl) (by kernel_rfl) callsb29
noncomputable def Eb29 : List (Nat × Ent) := (29, funEntL Sb29 true Fb29) :: Eb30
theorem Eb29_ok : EntsOk Go.Proofs.Try.prog (ofL Eb29) := .cons entb29 Eb30_ok

/-! ### barbican/pack.drawn -/
noncomputable def bodyb25 : Code := (Go.Proofs.Try.f25.body).getD .skip
abbrev Sb25 : FL := ⟨⟨[], [.env 0 (.c (.int .i64)), .env 1 (.c (.fz (.int .u8))), .env 2 (.c (.int .i64))], []⟩, 3, [(.ret, ⟨[(0, .clo 29 [5, 9, 7])], [.reg 5 (.cells [.int .i64]), .reg 9 (.cells [.nils]), .reg 7 (.cells [.ptr 1 0 29]), .reg 1 (.cells [.int .i64, .ints .u64 25, .int .i64, .bool, .int .i64])], [(1, .reg 7 0)]⟩)], [.tmp 6], false⟩
noncomputable def cb25 : Ctx Go.Proofs.Try.prog := ⟨btab, ofL Eb29, btabOk, Eb29_ok, bdep, bord⟩
noncomputable def Fb25 : Int × (List Int) × Int → Option ((Int × Unit × Unit × (Int × (Nat → Int) × Int × Bool × Int)))
  | (a0, a1, a2) =>
    (Fb27 a0).bind fun
      | (.inl (y1, y2)) =>
        (Fb28 ((y1.1, y1.2.1, y1.2.2.1, y1.2.2.2.1, y1.2.2.2.2), a1)).bind fun (y3, y4) =>
          some (a2, (), (), (y4.1, y4.2.1, y4.2.2.1, y4.2.2.2.1, y4.2.2.2.2))
      | (.inr y5) =>
        none

noncomputable def annb25 : Ann := .none
theorem eqb25 : ∀ x : Sb25.inT, exec btab (ofL Eb29) 19 bodyb25 annb25 (finL btab Sb25) (Sb25.inp.enc x) = Fb25 x := by
  rintro ⟨a0, a1, a2⟩
  kernel_rfl
theorem callsb25 : CallsL Go.Proofs.Try.prog 25 Sb25 Fb25 := by
  refine fun_callsL (fn := Go.Proofs.Try.f25) (c := bodyb25) (ann := annb25) cb25 (by kernel_rfl) (by kernel_rfl) (by kernel_rfl) (by kernel_rfl) (by kernel_rfl) (annOk_of_cuts ?_) eqb25
  intro x hx
  exact absurd hx (by show x ∉ ([] : List (List Nat × LEnt)); simp)

theorem entb25 : EntOk Go.Proofs.Try.prog 25 (funEntL Sb25 true Fb25) := fun_okL (fn := Go.Proofs.Try.f25) (c := bodyb25) (by kernel_rfl) (by kernel_rfl) (by kernel_rfl) (by kernel_rfl) callsb25
noncomputable def Eb25 : List (Nat × Ent) := (25, funEntL Sb25 true Fb25) :: Eb29
theorem Eb25_ok : EntsOk Go.Proofs.Try.prog (ofL Eb25) := .cons entb25 Eb29_ok

/-! ### barbican/ring.mod -/
noncomputable def bodyb26 : Code := (Go.Proofs.Try.f26.body).getD .skip
abbrev Sb26 : FL := ⟨⟨[], [.env 0 (.c (.int .i64))], []⟩, 1, [(.ret, ⟨[], [.env 0 (.c (.int .i32))], []⟩)], [.tmp 2], false⟩
noncomputable def cb26 : Ctx Go.Proofs.Try.prog := ⟨btab, ofL Eb25, btabOk, Eb25_ok, bdep, bord⟩
noncomputable def Fb26 : Int → Option ((Int))
  | a0 =>
    if (decide ((a0.tmod 8380417) < 0)) = true then
      let x1 : Int := (IntKind.i32.wrap (IntKind.i64.wrap ((a0.tmod 8380417) + 8380417)))
      some x1
    else
      some (IntKind.i32.wrap (a0.tmod 8380417))

noncomputable def annb26 : Ann := .none
theorem eqb26 : ∀ x : Sb26.inT, exec btab (ofL Eb25) 11 bodyb26 annb26 (finL btab Sb26) (Sb26.inp.enc x) = Fb26 x := by
  intro x
  kernel_rfl
theorem callsb26 : CallsL Go.Proofs.Try.prog 26 Sb26 Fb26 := by
  refine fun_callsL (fn := Go.Proofs.Try.f26) (c := bodyb26) (ann := annb26) cb26 (by kernel_rfl) (by kernel_rfl) (by kernel_rfl) (by kernel_rfl) (by kernel_rfl) (annOk_of_cuts ?_) eqb26
  intro x hx
  exact absurd hx (by show x ∉ ([] : List (List Nat × LEnt)); simp)

theorem entb26 : EntOk Go.Proofs.Try.prog 26 (funEntL Sb26 true Fb26) := fun_okL (fn := Go.Proofs.Try.f26) (c := bodyb26) (by kernel_rfl) (by kernel_rfl) (by kernel_rfl) (by kernel_rfl) callsb26
noncomputable def Eb26 : List (Nat × Ent) := (26, funEntL Sb26 true Fb26) :: Eb25
theorem Eb26_ok : EntsOk Go.Proofs.Try.prog (ofL Eb26) := .cons entb26 Eb25_ok

/-! ### barbican/ring.Reduce -/
noncomputable def bodyb24 : Code := (Go.Proofs.Try.f24.body).getD .skip
abbrev Sb24 : FL := ⟨⟨[], [.env 0 (.agg [.ints .i32 256])], []⟩, 1, [(.ret, ⟨[], [.env 0 (.agg [.ints .i32 256])], []⟩)], [.cell 2 23], false⟩
noncomputable def cb24 : Ctx Go.Proofs.Try.prog := ⟨btab, ofL Eb26, btabOk, Eb26_ok, bdep, bord⟩
abbrev lb24_0 : Lay := ⟨[(1, .ptr 1 0 256), (2, .ptr 2 0 256)], [.env 5 (.agg [.ints .i32 256]), .env 6 (.c (.int .i64)), .reg 1 (.cells [.ints .i32 256]), .reg 2 (.cells [.ints .i32 256])], [(1, .env 1 0), (2, .env 2 0)]⟩
abbrev ob24_0 : List (AExit × Lay) := [(.exit 0, ⟨[(1, .ptr 1 0 256), (2, .ptr 2 0 256)], [.reg 1 (.cells [.ints .i32 256]), .reg 2 (.cells [.ints .i32 256])], [(1, .env 1 0), (2, .env 2 0)]⟩)]
noncomputable def stepb24_0 : (Nat → Int) × Int × (Nat → Int) × (Nat → Int) → Option (((Nat → Int) × Int × (Nat → Int) × (Nat → Int)) ⊕ (((Nat → Int) × (Nat → Int))))
  | (t5, t6, r1, r2) =>
    if (decide (t6 < 256)) = true then
      if (0 : Int) ≤ t6 ∧ t6 < (256 : Int) then
        (Fb26 (IntKind.i64.wrap (t5 t6.toNat))).bind fun y1 =>
          if (0 : Int) ≤ t6 ∧ t6 < ((256 : Int) : Int) then
            some (.inl (t5, (IntKind.i64.wrap (t6 + 1)), (upd r1 t6.toNat y1), r2))
          else none
      else none
    else
      some (.inr (r1, r2))

noncomputable def annb24_0 : Ann := .none
noncomputable def Fb24 : (Nat → Int) → Option (((Nat → Int)))
  | a0 =>
    (loopO stepb24_0 (a0, 0, a0, (fun _ => 0))).bind fun (z2, z3) =>
      some z2

noncomputable def annb24 : Ann := (.seq .none (.seq (.seq .none (.seq (.cut (cutEnt lb24_0 ob24_0 (loopO (stepb24_0)))) .none)) .none))
theorem eqb24_0 : ∀ s : lb24_0.T, exec btab (ofL Eb26) 17 (Code.at' [1, 0, 1, 0, 0] bodyb24) annb24_0 (fun e st => loopEnd (l := lb24_0) (outs := ob24_0) e st) (lb24_0.enc s) = stepb24_0 s := by
  rintro ⟨t5, t6, r1, r2⟩
  kernel_rfl
theorem okb24_0 : LOk Go.Proofs.Try.prog 17 (cutEnt lb24_0 ob24_0 (loopO stepb24_0)) (Code.at' [1, 0, 1, 0] bodyb24) := by
  have e : Code.at' [1, 0, 1, 0] bodyb24 = .loop (Code.at' [1, 0, 1, 0, 0] bodyb24) := by kernel_rfl
  rw [e]
  refine loop_ok cb24 17 rfl rfl (annOk_of_cuts ?_) eqb24_0
  intro x hx
  exact absurd hx (by show x ∉ ([] : List (List Nat × LEnt)); simp)

theorem eqb24 : ∀ x : Sb24.inT, exec btab (ofL Eb26) 17 bodyb24 annb24 (finL btab Sb24) (Sb24.inp.enc x) = Fb24 x := by
  intro x
  kernel_rfl
theorem callsb24 : CallsL Go.Proofs.Try.prog 24 Sb24 Fb24 := by
  refine fun_callsL (fn := Go.Proofs.Try.f24) (c := bodyb24) (ann := annb24) cb24 (by kernel_rfl) (by kernel_rfl) (by kernel_rfl) (by kernel_rfl) (by kernel_rfl) (annOk_of_cuts ?_) eqb24
  have hc : Ann.cuts annb24 = [([1, 0, 1, 0], (cutEnt lb24_0 ob24_0 (loopO (stepb24_0))))] := by kernel_rfl
  rw [hc]
  intro x hx
  simp only [List.mem_cons, List.not_mem_nil, or_false] at hx
  rcases hx with rfl
  · have e : Code.at' [1, 0, 1, 0] bodyb24 = Code.at' [1, 0, 1, 0] bodyb24 := by kernel_rfl
    rw [e]; exact okb24_0

theorem entb24 : EntOk Go.Proofs.Try.prog 24 (funEntL Sb24 true Fb24) := fun_okL (fn := Go.Proofs.Try.f24) (c := bodyb24) (by kernel_rfl) (by kernel_rfl) (by kernel_rfl) (by kernel_rfl) callsb24
noncomputable def Eb24 : List (Nat × Ent) := (24, funEntL Sb24 true Fb24) :: Eb26
theorem Eb24_ok : EntsOk Go.Proofs.Try.prog (ofL Eb24) := .cons entb24 Eb26_ok

/-! ### barbican/pack.Ball -/
noncomputable def bodyb15 : Code := (Go.Proofs.Try.f15.body).getD .skip
abbrev Sb15 : FL := ⟨⟨[], [.env 0 (.c (.fz (.int .u8)))], []⟩, 1, [(.ret, ⟨[], [.env 0 (.agg [.ints .i32 256]), .env 1 (.c (.int .i64))], []⟩)], [.cell 2 23, .tmp 3], false⟩
noncomputable def cb15 : Ctx Go.Proofs.Try.prog := ⟨btab, ofL Eb24, btabOk, Eb24_ok, bdep, bord⟩
abbrev lb15_0 : Lay := ⟨[(2, .ptr 2 0 256), (4, .clo 29 [5018, 9018, 7018])], [.env 5 (.c (.int .u64)), .env 19 (.c (.int .i64)), .reg 2 (.cells [.ints .i32 256]), .reg 5018 (.cells [.int .i64]), .reg 9018 (.cells [.fz (.int .u8)]), .reg 7018 (.cells [.ptr 1018 0 29]), .reg 1018 (.cells [.int .i64, .ints .u64 25, .int .i64, .bool, .int .i64])], [(2, .env 2 0), (1018, .reg 7018 0)]⟩
abbrev ob15_0 : List (AExit × Lay) := [(.exit 0, ⟨[(2, .ptr 2 0 256), (4, .clo 29 [5018, 9018, 7018])], [.env 5 (.c (.int .u64)), .reg 2 (.cells [.ints .i32 256]), .reg 5018 (.cells [.int .i64]), .reg 9018 (.cells [.fz (.int .u8)]), .reg 7018 (.cells [.ptr 1018 0 29]), .reg 1018 (.cells [.int .i64, .ints .u64 25, .int .i64, .bool, .int .i64])], [(2, .env 2 0), (1018, .reg 7018 0)]⟩)]
noncomputable def stepb15_0 : Int × Int × (Nat → Int) × Int × (List Int) × Unit × (Int × (Nat → Int) × Int × Bool × Int) → Option ((Int × Int × (Nat → Int) × Int × (List Int) × Unit × (Int × (Nat → Int) × Int × Bool × Int)) ⊕ ((Int × (Nat → Int) × Int × (List Int) × Unit × (Int × (Nat → Int) × Int × Bool × Int))))
  | (t5, t19, r2, r5018, r9018, r7018, r1018) =>
    if (decide (t19 < 8)) = true then
      (Fb29 (r5018, r9018, (), (r1018.1, r1018.2.1, r1018.2.2.1, r1018.2.2.2.1, r1018.2.2.2.2))).bind fun (y5, y6, y7, y8, y9, y10) =>
        if 0 ≤ (IntKind.i64.wrap (8 * t19)) then
          let x11 : Int := (shlI .u64 (IntKind.u64.wrap y5) (IntKind.i64.wrap (8 * t19)))
          some (.inl ((bitsOr .u64 t5 x11), (IntKind.i64.wrap (t19 + 1)), r2, y7, y8, (), (y10.1, y10.2.1, y10.2.2.1, y10.2.2.2.1, y10.2.2.2.2)))
        else none
    else
      some (.inr (t5, r2, r5018, r9018, (), (r1018.1, r1018.2.1, r1018.2.2.1, r1018.2.2.2.1, r1018.2.2.2.2)))

noncomputable def annb15_0 : Ann := .none
abbrev lb15_2 : Lay := ⟨[(2, .ptr 2 0 256), (4, .clo 29 [5018, 9018, 7018]), (9, .ptr 9 0 256)], [.env 5 (.c (.int .u64)), .env 10 (.c (.int .i64)), .env 11 (.c (.int .u8)), .env 12 (.c (.bool)), .reg 2 (.cells [.ints .i32 256]), .reg 5018 (.cells [.int .i64]), .reg 9018 (.cells [.fz (.int .u8)]), .reg 7018 (.cells [.ptr 1041 0 29]), .reg 9 (.cells [.ints .i32 256]), .reg 1041 (.cells [.int .i64, .ints .u64 25, .int .i64, .bool, .int .i64])], [(2, .env 2 0), (9, .env 9 0), (1041, .reg 7018 0)]⟩
abbrev ob15_2 : List (AExit × Lay) := [(.exit 4, ⟨[(2, .ptr 2 0 256), (4, .clo 29 [5018, 9018, 7018]), (9, .ptr 9 0 256)], [.env 5 (.c (.int .u64)), .env 10 (.c (.int .i64)), .env 11 (.c (.int .u8)), .env 12 (.c (.bool)), .reg 2 (.cells [.ints .i32 256]), .reg 5018 (.cells [.int .i64]), .reg 9018 (.cells [.fz (.int .u8)]), .reg 7018 (.cells [.ptr 1041 0 29]), .reg 9 (.cells [.ints .i32 256]), .reg 1041 (.cells [.int .i64, .ints .u64 25, .int .i64, .bool, .int .i64])], [(2, .env 2 0), (9, .env 9 0), (1041, .reg 7018 0)]⟩)]
noncomputable def stepb15_2 : Int × Int × Int × Bool × (Nat → Int) × Int × (List Int) × Unit × (Nat → Int) × (Int × (Nat → Int) × Int × Bool × Int) → Option ((Int × Int × Int × Bool × (Nat → Int) × Int × (List Int) × Unit × (Nat → Int) × (Int × (Nat → Int) × Int × Bool × Int)) ⊕ ((Int × Int × Int × Bool × (Nat → Int) × Int × (List Int) × Unit × (Nat → Int) × (Int × (Nat → Int) × Int × Bool × Int))))
  | (t5, t10, t11, t12, r2, r5018, r9018, r7018, r9, r1041) =>
    if t12 = true then
      if (decide ((IntKind.i64.wrap t11) > t10)) = true then
        (Fb29 (r5018, r9018, (), (r1041.1, r1041.2.1, r1041.2.2.1, r1041.2.2.2.1, r1041.2.2.2.2))).bind fun (y24, y25, y26, y27, y28, y29) =>
          some (.inl (t5, t10, y24, y25, r2, y26, y27, (), r9, (y29.1, y29.2.1, y29.2.2.1, y29.2.2.2.1, y29.2.2.2.2)))
      else
        some (.inr (t5, t10, t11, t12, r2, r5018, r9018, (), r9, (r1041.1, r1041.2.1, r1041.2.2.1, r1041.2.2.2.1, r1041.2.2.2.2)))
    else
      some (.inr (t5, t10, t11, t12, r2, r5018, r9018, (), r9, (r1041.1, r1041.2.1, r1041.2.2.1, r1041.2.2.2.1, r1041.2.2.2.2)))

noncomputable def annb15_2 : Ann := .none
abbrev lb15_1 : Lay := ⟨[(2, .ptr 2 0 256), (4, .clo 29 [5018, 9018, 7018]), (9, .ptr 9 0 256)], [.env 5 (.c (.int .u64)), .env 10 (.c (.int .i64)), .reg 2 (.cells [.ints .i32 256]), .reg 5018 (.cells [.int .i64]), .reg 9018 (.cells [.fz (.int .u8)]), .reg 7018 (.cells [.ptr 1018 0 29]), .reg 9 (.cells [.ints .i32 256]), .reg 1018 (.cells [.int .i64, .ints .u64 25, .int .i64, .bool, .int .i64])], [(2, .env 2 0), (9, .env 9 0), (1018, .reg 7018 0)]⟩
abbrev ob15_1 : List (AExit × Lay) := [(.ret, ⟨[(2, .ptr 2 0 256)], [.env 3 (.c (.int .i64)), .reg 2 (.cells [.ints .i32 256])], [(2, .env 2 0)]⟩), (.exit 2, ⟨[(2, .ptr 2 0 256), (9, .ptr 9 0 256)], [.reg 2 (.cells [.ints .i32 256]), .reg 9 (.cells [.ints .i32 256])], [(2, .env 2 0), (9, .env 9 0)]⟩)]
noncomputable def stepb15_1 : Int × Int × (Nat → Int) × Int × (List Int) × Unit × (Nat → Int) × (Int × (Nat → Int) × Int × Bool × Int) → Option ((Int × Int × (Nat → Int) × Int × (List Int) × Unit × (Nat → Int) × (Int × (Nat → Int) × Int × Bool × Int)) ⊕ ((Int × (Nat → Int)) ⊕ ((Nat → Int) × (Nat → Int))))
  | (t5, t10, r2, r5018, r9018, r7018, r9, r1018) =>
    if (decide (t10 < 256)) = true then
      (Fb29 (r5018, r9018, (), (r1018.1, r1018.2.1, r1018.2.2.1, r1018.2.2.2.1, r1018.2.2.2.2))).bind fun (y18, y19, y20, y21, y22, y23) =>
        (loopO stepb15_2 (t5, t10, y18, y19, r2, y20, y21, (), r9, (y23.1, y23.2.1, y23.2.2.1, y23.2.2.2.1, y23.2.2.2.2))).bind fun (z30, z31, z32, z33, z34, z35, z36, z37, z38, z39) =>
          if (!z33) = true then
            some (.inr (.inl (94, (fun _ => 0))))
          else
            if (0 : Int) ≤ z32 ∧ z32 < ((256 : Int) : Int) then
              if (0 : Int) ≤ z31 ∧ z31 < ((256 : Int) : Int) then
                let x40 : Int := (IntKind.i32.wrap (2 * (IntKind.i32.wrap (bitsAnd .u64 z30 1))))
                if (0 : Int) ≤ z32 ∧ z32 < ((256 : Int) : Int) then
                  let f41 : Nat → Int := (upd (upd z38 z31.toNat (z38 z32.toNat)) z32.toNat (IntKind.i32.wrap (1 - x40)))
                  some (.inl ((shrI .u64 z30 1), (IntKind.i64.wrap (z31 + 1)), z34, z35, z36, (), f41, (z39.1, z39.2.1, z39.2.2.1, z39.2.2.2.1, z39.2.2.2.2)))
                else none
              else none
            else none
    else
      some (.inr (.inr (r2, r9)))

noncomputable def annb15_1 : Ann := (.seq .none (.seq (.seq (.seq .none (.seq (.seq (.cut (cutEnt lb15_2 ob15_2 (loopO (stepb15_2)))) .none) .none)) .none) .none))
noncomputable def Fb15 : (List Int) → Option (((Nat → Int) × Int))
  | a0 =>
    if ((a0.length : Int) != 48) = true then
      some ((fun _ => 0), 91)
    else
      (Fb25 (5, a0, 1008)).bind fun (y1, y2, y3, y4) =>
        (loopO stepb15_0 (0, 0, (fun _ => 0), y1, ([] : List Int), (), (y4.1, y4.2.1, y4.2.2.1, y4.2.2.2.1, y4.2.2.2.2))).bind fun (z12, z13, z14, z15, z16, z17) =>
          (loopO stepb15_1 (z12, 207, z13, z14, z15, (), (fun _ => 0), (z17.1, z17.2.1, z17.2.2.1, z17.2.2.2.1, z17.2.2.2.2))).bind fun
            | (.inl (z42, z43)) =>
              some (z43, z42)
            | (.inr (z44, z45)) =>
              (Fb24 z45).bind fun y46 =>
                some (y46, 0)

noncomputable def annb15 : Ann := (.seq .none (.seq .none (.seq .none (.seq .none (.seq (.seq .none (.seq (.cut (cutEnt lb15_0 ob15_0 (loopO (stepb15_0)))) .none)) (.seq .none (.seq (.seq .none (.seq (.cut (cutEnt lb15_1 ob15_1 (loopO (stepb15_1)))) .none)) .none)))))))
theorem eqb15_0 : ∀ s : lb15_0.T, exec btab (ofL Eb24) 75 (Code.at' [1, 1, 1, 1, 0, 1, 0, 0] bodyb15) annb15_0 (fun e st => loopEnd (l := lb15_0) (outs := ob15_0) e st) (lb15_0.enc s) = stepb15_0 s := by
  rintro ⟨t5, t19, r2, r5018, r9018, r7018, r1018⟩
  kernel_rfl
theorem okb15_0 : LOk Go.Proofs.Try.prog 75 (cutEnt lb15_0 ob15_0 (loopO stepb15_0)) (Code.at' [1, 1, 1, 1, 0, 1, 0] bodyb15) := by
  have e : Code.at' [1, 1, 1, 1, 0, 1, 0] bodyb15 = .loop (Code.at' [1, 1, 1, 1, 0, 1, 0, 0] bodyb15) := by kernel_rfl
  rw [e]
  refine loop_ok cb15 75 rfl rfl (annOk_of_cuts ?_) eqb15_0
  intro x hx
  exact absurd hx (by show x ∉ ([] : List (List Nat × LEnt)); simp)

theorem eqb15_2 : ∀ s : lb15_2.T, exec btab (ofL Eb24) 75 (Code.at' [1, 1, 1, 1, 1, 1, 0, 1, 0, 0, 1, 0, 0, 1, 0, 0, 0] bodyb15) annb15_2 (fun e st => loopEnd (l := lb15_2) (outs := ob15_2) e st) (lb15_2.enc s) = stepb15_2 s := by
  rintro ⟨t5, t10, t11, t12, r2, r5018, r9018, r7018, r9, r1041⟩
  kernel_rfl
theorem okb15_2 : LOk Go.Proofs.Try.prog 75 (cutEnt lb15_2 ob15_2 (loopO stepb15_2)) (Code.at' [1, 1, 1, 1, 1, 1, 0, 1, 0, 0, 1, 0, 0, 1, 0, 0] bodyb15) := by
  have e : Code.at' [1, 1, 1, 1, 1, 1, 0, 1, 0, 0, 1, 0, 0, 1, 0, 0] bodyb15 = .loop (Code.at' [1, 1, 1, 1, 1, 1, 0, 1, 0, 0, 1, 0, 0, 1, 0, 0, 0] bodyb15) := by kernel_rfl
  rw [e]
  refine loop_ok cb15 75 rfl rfl (annOk_of_cuts ?_) eqb15_2
  intro x hx
  exact absurd hx (by show x ∉ ([] : List (List Nat × LEnt)); simp)

theorem eqb15_1 : ∀ s : lb15_1.T, exec btab (ofL Eb24) 75 (Code.at' [1, 1, 1, 1, 1, 1, 0, 1, 0, 0] bodyb15) annb15_1 (fun e st => loopEnd (l := lb15_1) (outs := ob15_1) e st) (lb15_1.enc s) = stepb15_1 s := by
  rintro ⟨t5, t10, r2, r5018, r9018, r7018, r9, r1018⟩
  kernel_rfl
theorem okb15_1 : LOk Go.Proofs.Try.prog 75 (cutEnt lb15_1 ob15_1 (loopO stepb15_1)) (Code.at' [1, 1, 1, 1, 1, 1, 0, 1, 0] bodyb15) := by
  have e : Code.at' [1, 1, 1, 1, 1, 1, 0, 1, 0] bodyb15 = .loop (Code.at' [1, 1, 1, 1, 1, 1, 0, 1, 0, 0] bodyb15) := by kernel_rfl
  rw [e]
  refine loop_ok cb15 75 rfl rfl (annOk_of_cuts ?_) eqb15_1
  have hc : Ann.cuts annb15_1 = [([1, 0, 0, 1, 0, 0], (cutEnt lb15_2 ob15_2 (loopO (stepb15_2))))] := by kernel_rfl
  rw [hc]
  intro x hx
  simp only [List.mem_cons, List.not_mem_nil, or_false] at hx
  rcases hx with rfl
  · have e : Code.at' [1, 0, 0, 1, 0, 0] (Code.at' [1, 1, 1, 1, 1, 1, 0, 1, 0, 0] bodyb15) = Code.at' [1, 1, 1, 1, 1, 1, 0, 1, 0, 0, 1, 0, 0, 1, 0, 0] bodyb15 := by kernel_rfl
    rw [e]; exact okb15_2

theorem eqb15 : ∀ x : Sb15.inT, exec btab (ofL Eb24) 75 bodyb15 annb15 (finL btab Sb15) (Sb15.inp.enc x) = Fb15 x := by
  intro x
  kernel_rfl
theorem callsb15 : CallsL Go.Proofs.Try.prog 15 Sb15 Fb15 := by
  refine fun_callsL (fn := Go.Proofs.Try.f15) (c := bodyb15) (ann := annb15) cb15 (by kernel_rfl) (by kernel_rfl) (by kernel_rfl) (by kernel_rfl) (by kernel_rfl) (annOk_of_cuts ?_) eqb15
  have hc : Ann.cuts annb15 = [([1, 1, 1, 1, 0, 1, 0], (cutEnt lb15_0 ob15_0 (loopO (stepb15_0)))), ([1, 1, 1, 1, 1, 1, 0, 1, 0], (cutEnt lb15_1 ob15_1 (loopO (stepb15_1))))] := by kernel_rfl
  rw [hc]
  intro x hx
  simp only [List.mem_cons, List.not_mem_nil, or_false] at hx
  rcases hx with rfl | rfl
  · have e : Code.at' [1, 1, 1, 1, 0, 1, 0] bodyb15 = Code.at' [1, 1, 1, 1, 0, 1, 0] bodyb15 := by kernel_rfl
    rw [e]; exact okb15_0
  · have e : Code.at' [1, 1, 1, 1, 1, 1, 0, 1, 0] bodyb15 = Code.at' [1, 1, 1, 1, 1, 1, 0, 1, 0] bodyb15 := by kernel_rfl
    rw [e]; exact okb15_1

theorem entb15 : EntOk Go.Proofs.Try.prog 15 (funEntL Sb15 true Fb15) := fun_okL (fn := Go.Proofs.Try.f15) (c := bodyb15) (by kernel_rfl) (by kernel_rfl) (by kernel_rfl) (by kernel_rfl) callsb15
noncomputable def Eb15 : List (Nat × Ent) := (15, funEntL Sb15 true Fb15) :: Eb24
theorem Eb15_ok : EntsOk Go.Proofs.Try.prog (ofL Eb15) := .cons entb15 Eb24_ok

/-! ### barbican/pack.Small -/
noncomputable def bodyb16 : Code := (Go.Proofs.Try.f16.body).getD .skip
abbrev Sb16 : FL := ⟨⟨[], [.env 0 (.c (.fz (.int .u8)))], []⟩, 1, [(.ret, ⟨[], [.env 0 (.agg [.ints .i32 256]), .env 1 (.c (.int .i64))], []⟩)], [.cell 2 23, .tmp 3], false⟩
noncomputable def cb16 : Ctx Go.Proofs.Try.prog := ⟨btab, ofL Eb15, btabOk, Eb15_ok, bdep, bord⟩
abbrev lb16_1 : Lay := ⟨[(2, .ptr 2 0 256), (4, .clo 29 [5016, 9016, 7016]), (5, .ptr 5 0 256)], [.env 6 (.c (.int .i64)), .env 31 (.agg [.ints .u8 2]), .env 32 (.c (.int .i64)), .reg 2 (.cells [.ints .i32 256]), .reg 5016 (.cells [.int .i64]), .reg 9016 (.cells [.fz (.int .u8)]), .reg 7016 (.cells [.ptr 1021 0 29]), .reg 5 (.cells [.ints .i32 256]), .reg 1021 (.cells [.int .i64, .ints .u64 25, .int .i64, .bool, .int .i64])], [(2, .env 2 0), (5, .env 5 0), (1021, .reg 7016 0)]⟩
abbrev ob16_1 : List (AExit × Lay) := [(.exit 2, ⟨[(2, .ptr 2 0 256), (4, .clo 29 [5016, 9016, 7016]), (5, .ptr 5 0 256)], [.env 6 (.c (.int .i64)), .reg 2 (.cells [.ints .i32 256]), .reg 5016 (.cells [.int .i64]), .reg 9016 (.cells [.fz (.int .u8)]), .reg 7016 (.cells [.ptr 1021 0 29]), .reg 5 (.cells [.ints .i32 256]), .reg 1021 (.cells [.int .i64, .ints .u64 25, .int .i64, .bool, .int .i64])], [(2, .env 2 0), (5, .env 5 0), (1021, .reg 7016 0)]⟩)]
noncomputable def stepb16_1 : Int × (Nat → Int) × Int × (Nat → Int) × Int × (List Int) × Unit × (Nat → Int) × (Int × (Nat → Int) × Int × Bool × Int) → Option ((Int × (Nat → Int) × Int × (Nat → Int) × Int × (List Int) × Unit × (Nat → Int) × (Int × (Nat → Int) × Int × Bool × Int)) ⊕ ((Int × (Nat → Int) × Int × (List Int) × Unit × (Nat → Int) × (Int × (Nat → Int) × Int × Bool × Int))))
  | (t6, t31, t32, r2, r5016, r9016, r7016, r5, r1021) =>
    if (decide (t32 < 2)) = true then
      if (0 : Int) ≤ t32 ∧ t32 < (2 : Int) then
        if (decide ((t31 t32.toNat) < 9)) = true then
          if (decide (t6 < 256)) = true then
            if (0 : Int) ≤ t6 ∧ t6 < ((256 : Int) : Int) then
              let f12 : Nat → Int := (upd r5 t6.toNat (IntKind.i32.wrap (4 - (IntKind.i32.wrap (t31 t32.toNat)))))
              some (.inl ((IntKind.i64.wrap (t6 + 1)), t31, (IntKind.i64.wrap (t32 + 1)), r2, r5016, r9016, (), f12, (r1021.1, r1021.2.1, r1021.2.2.1, r1021.2.2.2.1, r1021.2.2.2.2)))
            else none
          else
            some (.inl (t6, t31, (IntKind.i64.wrap (t32 + 1)), r2, r5016, r9016, (), r5, (r1021.1, r1021.2.1, r1021.2.2.1, r1021.2.2.2.1, r1021.2.2.2.2)))
        else
          some (.inl (t6, t31, (IntKind.i64.wrap (t32 + 1)), r2, r5016, r9016, (), r5, (r1021.1, r1021.2.1, r1021.2.2.1, r1021.2.2.2.1, r1021.2.2.2.2)))
      else none
    else
      some (.inr (t6, r2, r5016, r9016, (), r5, (r1021.1, r1021.2.1, r1021.2.2.1, r1021.2.2.2.1, r1021.2.2.2.2)))

noncomputable def annb16_1 : Ann := .none
abbrev lb16_0 : Lay := ⟨[(2, .ptr 2 0 256), (4, .clo 29 [5016, 9016, 7016]), (5, .ptr 5 0 256)], [.env 6 (.c (.int .i64)), .reg 2 (.cells [.ints .i32 256]), .reg 5016 (.cells [.int .i64]), .reg 9016 (.cells [.fz (.int .u8)]), .reg 7016 (.cells [.ptr 1016 0 29]), .reg 5 (.cells [.ints .i32 256]), .reg 1016 (.cells [.int .i64, .ints .u64 25, .int .i64, .bool, .int .i64])], [(2, .env 2 0), (5, .env 5 0), (1016, .reg 7016 0)]⟩
abbrev ob16_0 : List (AExit × Lay) := [(.ret, ⟨[(2, .ptr 2 0 256)], [.env 3 (.c (.int .i64)), .reg 2 (.cells [.ints .i32 256])], [(2, .env 2 0)]⟩), (.exit 0, ⟨[(2, .ptr 2 0 256), (5, .ptr 5 0 256)], [.reg 2 (.cells [.ints .i32 256]), .reg 5 (.cells [.ints .i32 256])], [(2, .env 2 0), (5, .env 5 0)]⟩)]
noncomputable def stepb16_0 : Int × (Nat → Int) × Int × (List Int) × Unit × (Nat → Int) × (Int × (Nat → Int) × Int × Bool × Int) → Option ((Int × (Nat → Int) × Int × (List Int) × Unit × (Nat → Int) × (Int × (Nat → Int) × Int × Bool × Int)) ⊕ ((Int × (Nat → Int)) ⊕ ((Nat → Int) × (Nat → Int))))
  | (t6, r2, r5016, r9016, r7016, r5, r1016) =>
    if (decide (t6 < 256)) = true then
      (Fb29 (r5016, r9016, (), (r1016.1, r1016.2.1, r1016.2.2.1, r1016.2.2.2.1, r1016.2.2.2.2))).bind fun (y5, y6, y7, y8, y9, y10) =>
        if (!y6) = true then
          some (.inr (.inl (94, (fun _ => 0))))
        else
          let f11 : Nat → Int := (upd (upd (fun _ => 0) 0 (bitsAnd .u8 y5 15)) 1 (shrI .u8 y5 4))
          (loopO stepb16_1 (t6, f11, 0, r2, y7, y8, (), r5, (y10.1, y10.2.1, y10.2.2.1, y10.2.2.2.1, y10.2.2.2.2))).bind fun (z13, z14, z15, z16, z17, z18, z19) =>
            some (.inl (z13, z14, z15, z16, (), z18, (z19.1, z19.2.1, z19.2.2.1, z19.2.2.2.1, z19.2.2.2.2)))
    else
      some (.inr (.inr (r2, r5)))

noncomputable def annb16_0 : Ann := (.seq .none (.seq (.seq .none (.seq .none (.seq .none (.seq (.cut (cutEnt lb16_1 ob16_1 (loopO (stepb16_1)))) .none)))) .none))
noncomputable def Fb16 : (List Int) → Option (((Nat → Int) × Int))
  | a0 =>
    if ((a0.length : Int) != 66) = true then
      some ((fun _ => 0), 91)
    else
      (Fb25 (5, a0, 2000)).bind fun (y1, y2, y3, y4) =>
        (loopO stepb16_0 (0, (fun _ => 0), y1, ([] : List Int), (), (fun _ => 0), (y4.1, y4.2.1, y4.2.2.1, y4.2.2.2.1, y4.2.2.2.2))).bind fun
          | (.inl (z20, z21)) =>
            some (z21, z20)
          | (.inr (z22, z23)) =>
            (Fb24 z23).bind fun y24 =>
              some (y24, 0)

noncomputable def annb16 : Ann := (.seq .none (.seq .none (.seq .none (.seq .none (.seq (.seq .none (.seq (.cut (cutEnt lb16_0 ob16_0 (loopO (stepb16_0)))) .none)) .none)))))
theorem eqb16_1 : ∀ s : lb16_1.T, exec btab (ofL Eb15) 51 (Code.at' [1, 1, 1, 1, 0, 1, 0, 0, 1, 0, 1, 1, 1, 0, 0] bodyb16) annb16_1 (fun e st => loopEnd (l := lb16_1) (outs := ob16_1) e st) (lb16_1.enc s) = stepb16_1 s := by
  rintro ⟨t6, t31, t32, r2, r5016, r9016, r7016, r5, r1021⟩
  kernel_rfl
theorem okb16_1 : LOk Go.Proofs.Try.prog 51 (cutEnt lb16_1 ob16_1 (loopO stepb16_1)) (Code.at' [1, 1, 1, 1, 0, 1, 0, 0, 1, 0, 1, 1, 1, 0] bodyb16) := by
  have e : Code.at' [1, 1, 1, 1, 0, 1, 0, 0, 1, 0, 1, 1, 1, 0] bodyb16 = .loop (Code.at' [1, 1, 1, 1, 0, 1, 0, 0, 1, 0, 1, 1, 1, 0, 0] bodyb16) := by kernel_rfl
  rw [e]
  refine loop_ok cb16 51 rfl rfl (annOk_of_cuts ?_) eqb16_1
  intro x hx
  exact absurd hx (by show x ∉ ([] : List (List Nat × LEnt)); simp)

theorem eqb16_0 : ∀ s : lb16_0.T, exec btab (ofL Eb15) 51 (Code.at' [1, 1, 1, 1, 0, 1, 0, 0] bodyb16) annb16_0 (fun e st => loopEnd (l := lb16_0) (outs := ob16_0) e st) (lb16_0.enc s) = stepb16_0 s := by
  rintro ⟨t6, r2, r5016, r9016, r7016, r5, r1016⟩
  kernel_rfl
theorem okb16_0 : LOk Go.Proofs.Try.prog 51 (cutEnt lb16_0 ob16_0 (loopO stepb16_0)) (Code.at' [1, 1, 1, 1, 0, 1, 0] bodyb16) := by
  have e : Code.at' [1, 1, 1, 1, 0, 1, 0] bodyb16 = .loop (Code.at' [1, 1, 1, 1, 0, 1, 0, 0] bodyb16) := by kernel_rfl
  rw [e]
  refine loop_ok cb16 51 rfl rfl (annOk_of_cuts ?_) eqb16_0
  have hc : Ann.cuts annb16_0 = [([1, 0, 1, 1, 1, 0], (cutEnt lb16_1 ob16_1 (loopO (stepb16_1))))] := by kernel_rfl
  rw [hc]
  intro x hx
  simp only [List.mem_cons, List.not_mem_nil, or_false] at hx
  rcases hx with rfl
  · have e : Code.at' [1, 0, 1, 1, 1, 0] (Code.at' [1, 1, 1, 1, 0, 1, 0, 0] bodyb16) = Code.at' [1, 1, 1, 1, 0, 1, 0, 0, 1, 0, 1, 1, 1, 0] bodyb16 := by kernel_rfl
    rw [e]; exact okb16_1

theorem eqb16 : ∀ x : Sb16.inT, exec btab (ofL Eb15) 51 bodyb16 annb16 (finL btab Sb16) (Sb16.inp.enc x) = Fb16 x := by
  intro x
  kernel_rfl
theorem callsb16 : CallsL Go.Proofs.Try.prog 16 Sb16 Fb16 := by
  refine fun_callsL (fn := Go.Proofs.Try.f16) (c := bodyb16) (ann := annb16) cb16 (by kernel_rfl) (by kernel_rfl) (by kernel_rfl) (by kernel_rfl) (by kernel_rfl) (annOk_of_cuts ?_) eqb16
  have hc : Ann.cuts annb16 = [([1, 1, 1, 1, 0, 1, 0], (cutEnt lb16_0 ob16_0 (loopO (stepb16_0))))] := by kernel_rfl
  rw [hc]
  intro x hx
  simp only [List.mem_cons, List.not_mem_nil, or_false] at hx
  rcases hx with rfl
  · have e : Code.at' [1, 1, 1, 1, 0, 1, 0] bodyb16 = Code.at' [1, 1, 1, 1, 0, 1, 0] bodyb16 := by kernel_rfl
    rw [e]; exact okb16_0

theorem entb16 : EntOk Go.Proofs.Try.prog 16 (funEntL Sb16 true Fb16) := fun_okL (fn := Go.Proofs.Try.f16) (c := bodyb16) (by kernel_rfl) (by kernel_rfl) (by kernel_rfl) (by kernel_rfl) callsb16
noncomputable def Eb16 : List (Nat × Ent) := (16, funEntL Sb16 true Fb16) :: Eb15
theorem Eb16_ok : EntsOk Go.Proofs.Try.prog (ofL Eb16) := .cons entb16 Eb15_ok

/-! ### barbican/barbicanref08.Centred -/
noncomputable def bodyb17 : Code := (Go.Proofs.Try.f17.body).getD .skip
abbrev Sb17 : FL := ⟨⟨[], [.env 0 (.c (.int .i32))], []⟩, 1, [(.ret, ⟨[], [.env 0 (.c (.int .i32))], []⟩)], [.tmp 2], false⟩
noncomputable def cb17 : Ctx Go.Proofs.Try.prog := ⟨btab, ofL Eb16, btabOk, Eb16_ok, bdep, bord⟩
noncomputable def Fb17 : Int → Option ((Int))
  | a0 =>
    if (decide (a0 > 4190208)) = true then
      some (IntKind.i32.wrap (a0 - 8380417))
    else
      some a0

noncomputable def annb17 : Ann := .none
theorem eqb17 : ∀ x : Sb17.inT, exec btab (ofL Eb16) 8 bodyb17 annb17 (finL btab Sb17) (Sb17.inp.enc x) = Fb17 x := by
  intro x
  kernel_rfl
theorem callsb17 : CallsL Go.Proofs.Try.prog 17 Sb17 Fb17 := by
  refine fun_callsL (fn := Go.Proofs.Try.f17) (c := bodyb17) (ann := annb17) cb17 (by kernel_rfl) (by kernel_rfl) (by kernel_rfl) (by kernel_rfl) (by kernel_rfl) (annOk_of_cuts ?_) eqb17
  intro x hx
  exact absurd hx (by show x ∉ ([] : List (List Nat × LEnt)); simp)

theorem entb17 : EntOk Go.Proofs.Try.prog 17 (funEntL Sb17 true Fb17) := fun_okL (fn := Go.Proofs.Try.f17) (c := bodyb17) (by kernel_rfl) (by kernel_rfl) (by kernel_rfl) (by kernel_rfl) callsb17
noncomputable def Eb17 : List (Nat × Ent) := (17, funEntL Sb17 true Fb17) :: Eb16
theorem Eb17_ok : EntsOk Go.Proofs.Try.prog (ofL Eb17) := .cons entb17 Eb16_ok

/-! ### barbican/barbicanlaw09.PackBall -/
noncomputable def bodyb5 : Code := (Go.Proofs.Try.f5.body).getD .skip
abbrev Sb5 : FL := ⟨⟨[], [.env 0 (.c (.fz (.int .u8)))], []⟩, 1, [(.ret, ⟨[], [.env 0 (.c (.bool))], []⟩)], [.tmp 2], false⟩
noncomputable def cb5 : Ctx Go.Proofs.Try.prog := ⟨btab, ofL Eb17, btabOk, Eb17_ok, bdep, bord⟩
abbrev lb5_0 : Lay := ⟨[(6, .ptr 6 0 256), (8, .ptr 8 0 256)], [.env 7 (.c (.int .i64)), .env 10 (.c (.int .i64)), .env 11 (.c (.int .i64)), .reg 6 (.cells [.ints .i32 256]), .reg 8 (.cells [.ints .i32 256])], [(6, .env 6 0), (8, .env 8 0)]⟩
abbrev ob5_0 : List (AExit × Lay) := [(.ret, ⟨[], [.env 2 (.c (.bool))], []⟩), (.exit 0, ⟨[], [.env 7 (.c (.int .i64)), .env 10 (.c (.int .i64))], []⟩)]
noncomputable def stepb5_0 : Int × Int × Int × (Nat → Int) × (Nat → Int) → Option ((Int × Int × Int × (Nat → Int) × (Nat → Int)) ⊕ ((Bool) ⊕ (Int × Int)))
  | (t7, t10, t11, r6, r8) =>
    if (decide (t11 < 256)) = true then
      if (0 : Int) ≤ t11 ∧ t11 < ((256 : Int) : Int) then
        if ((r6 t11.toNat) != 0) = true then
          if (0 : Int) ≤ t11 ∧ t11 < ((256 : Int) : Int) then
            if ((r6 t11.toNat) != 1) = true then
              if (0 : Int) ≤ t11 ∧ t11 < ((256 : Int) : Int) then
                if ((r6 t11.toNat) != 8380416) = true then
                  some (.inr (.inl false))
                else
                  if (0 : Int) ≤ t11 ∧ t11 < ((256 : Int) : Int) then
                    if ((r6 t11.toNat) != 0) = true then
                      if (0 : Int) ≤ t11 ∧ t11 < ((256 : Int) : Int) then
                        (Fb17 (r8 t11.toNat)).bind fun y10 =>
                          if (decide (y10 < (-4))) = false then
                            if (decide (y10 > 4)) = true then
                              some (.inr (.inl false))
                            else
                              some (.inl (t7, (IntKind.i64.wrap (t10 + 1)), (IntKind.i64.wrap (t11 + 1)), r6, r8))
                          else
                            some (.inr (.inl false))
                      else none
                    else
                      if (0 : Int) ≤ t11 ∧ t11 < ((256 : Int) : Int) then
                        (Fb17 (r8 t11.toNat)).bind fun y11 =>
                          if (decide (y11 < (-4))) = false then
                            if (decide (y11 > 4)) = true then
                              some (.inr (.inl false))
                            else
                              some (.inl (t7, t10, (IntKind.i64.wrap (t11 + 1)), r6, r8))
                          else
                            some (.inr (.inl false))
                      else none
                  else none
              else none
            else
              if (0 : Int) ≤ t11 ∧ t11 < ((256 : Int) : Int) then
                if ((r6 t11.toNat) != 0) = true then
                  if (0 : Int) ≤ t11 ∧ t11 < ((256 : Int) : Int) then
                    (Fb17 (r8 t11.toNat)).bind fun y12 =>
                      if (decide (y12 < (-4))) = false then
                        if (decide (y12 > 4)) = true then
                          some (.inr (.inl false))
                        else
                          some (.inl (t7, (IntKind.i64.wrap (t10 + 1)), (IntKind.i64.wrap (t11 + 1)), r6, r8))
                      else
                        some (.inr (.inl false))
                  else none
                else
                  if (0 : Int) ≤ t11 ∧ t11 < ((256 : Int) : Int) then
                    (Fb17 (r8 t11.toNat)).bind fun y13 =>
                      if (decide (y13 < (-4))) = false then
                        if (decide (y13 > 4)) = true then
                          some (.inr (.inl false))
                        else
                          some (.inl (t7, t10, (IntKind.i64.wrap (t11 + 1)), r6, r8))
                      else
                        some (.inr (.inl false))
                  else none
              else none
          else none
        else
          if (0 : Int) ≤ t11 ∧ t11 < ((256 : Int) : Int) then
            if ((r6 t11.toNat) != 0) = true then
              if (0 : Int) ≤ t11 ∧ t11 < ((256 : Int) : Int) then
                (Fb17 (r8 t11.toNat)).bind fun y14 =>
                  if (decide (y14 < (-4))) = false then
                    if (decide (y14 > 4)) = true then
                      some (.inr (.inl false))
                    else
                      some (.inl (t7, (IntKind.i64.wrap (t10 + 1)), (IntKind.i64.wrap (t11 + 1)), r6, r8))
                  else
                    some (.inr (.inl false))
              else none
            else
              if (0 : Int) ≤ t11 ∧ t11 < ((256 : Int) : Int) then
                (Fb17 (r8 t11.toNat)).bind fun y15 =>
                  if (decide (y15 < (-4))) = false then
                    if (decide (y15 > 4)) = true then
                      some (.inr (.inl false))
                    else
                      some (.inl (t7, t10, (IntKind.i64.wrap (t11 + 1)), r6, r8))
                  else
                    some (.inr (.inl false))
              else none
          else none
      else none
    else
      some (.inr (.inr (t7, t10)))

noncomputable def annb5_0 : Ann := .none
noncomputable def Fb5 : (List Int) → Option ((Bool))
  | a0 =>
    (Fb6 ()).bind fun y1 =>
      if 0 ≤ (48 : Int) ∧ (48 : Int) ≤ 48 ∧ okBytes 48 1 then
        let x2 : Int := (((min a0.length (List.replicate 48 (0 : Int)).length) : Nat) : Int)
        let f3 : List Int := (a0.take (min a0.length (List.replicate 48 (0 : Int)).length) ++ (List.replicate 48 (0 : Int)).drop (min a0.length (List.replicate 48 (0 : Int)).length))
        if 0 ≤ (66 : Int) ∧ (66 : Int) ≤ 66 ∧ okBytes 66 1 then
          let x4 : Int := (((min a0.length (List.replicate 66 (0 : Int)).length) : Nat) : Int)
          let f5 : List Int := (a0.take (min a0.length (List.replicate 66 (0 : Int)).length) ++ (List.replicate 66 (0 : Int)).drop (min a0.length (List.replicate 66 (0 : Int)).length))
          (Fb15 f3).bind fun (y6, y7) =>
            (Fb16 f5).bind fun (y8, y9) =>
              if (!y1) = false then
                if (y7 != 0) = true then
                  if (y7 != 94) = false then
                    if (y9 != 0) = true then
                      if (y9 != 94) = true then
                        some false
                      else
                        (loopO stepb5_0 (y7, 0, 0, y6, y8)).bind fun
                          | (.inl z16) =>
                            some z16
                          | (.inr (z17, z18)) =>
                            if (z17 != 0) = false then
                              some (z18 == 49)
                            else
                              some true
                    else
                      (loopO stepb5_0 (y7, 0, 0, y6, y8)).bind fun
                        | (.inl z19) =>
                          some z19
                        | (.inr (z20, z21)) =>
                          if (z20 != 0) = false then
                            some (z21 == 49)
                          else
                            some true
                  else
                    some false
                else
                  if (y9 != 0) = true then
                    if (y9 != 94) = true then
                      some false
                    else
                      (loopO stepb5_0 (y7, 0, 0, y6, y8)).bind fun
                        | (.inl z22) =>
                          some z22
                        | (.inr (z23, z24)) =>
                          if (z23 != 0) = false then
                            some (z24 == 49)
                          else
                            some true
                  else
                    (loopO stepb5_0 (y7, 0, 0, y6, y8)).bind fun
                      | (.inl z25) =>
                        some z25
                      | (.inr (z26, z27)) =>
                        if (z26 != 0) = false then
                          some (z27 == 49)
                        else
                          some true
              else
                some false
        else none
      else none

noncomputable def annb5 : Ann := (.seq .none (.seq .none (.seq .none (.seq .none (.seq .none (.seq .none (.seq .none (.seq .none (.seq .none (.seq .none (.seq (.seq .none (.seq (.cut (cutEnt lb5_0 ob5_0 (loopO (stepb5_0)))) .none)) .none)))))))))))
theorem eqb5_0 : ∀ s : lb5_0.T, exec btab (ofL Eb17) 92 (Code.at' [1, 1, 1, 1, 1, 1, 1, 1, 1, 1, 0, 1, 0, 0] bodyb5) annb5_0 (fun e st => loopEnd (l := lb5_0) (outs := ob5_0) e st) (lb5_0.enc s) = stepb5_0 s := by
  rintro ⟨t7, t10, t11, r6, r8⟩
  kernel_rfl
theorem okb5_0 : LOk Go.Proofs.Try.prog 92 (cutEnt lb5_0 ob5_0 (loopO stepb5_0)) (Code.at' [1, 1, 1, 1, 1, 1, 1, 1, 1, 1, 0, 1, 0] bodyb5) := by
  have e : Code.at' [1, 1, 1, 1, 1, 1, 1, 1, 1, 1, 0, 1, 0] bodyb5 = .loop (Code.at' [1, 1, 1, 1, 1, 1, 1, 1, 1, 1, 0, 1, 0, 0] bodyb5) := by kernel_rfl
  rw [e]
  refine loop_ok cb5 92 rfl rfl (annOk_of_cuts ?_) eqb5_0
  intro x hx
  exact absurd hx (by show x ∉ ([] : List (List Nat × LEnt)); simp)

theorem eqb5 : ∀ x : Sb5.inT, exec btab (ofL Eb17) 92 bodyb5 annb5 (finL btab Sb5) (Sb5.inp.enc x) = Fb5 x := by
  intro x
  kernel_rfl
theorem callsb5 : CallsL Go.Proofs.Try.prog 5 Sb5 Fb5 := by
  refine fun_callsL (fn := Go.Proofs.Try.f5) (c := bodyb5) (ann := annb5) cb5 (by kernel_rfl) (by kernel_rfl) (by kernel_rfl) (by kernel_rfl) (by kernel_rfl) (annOk_of_cuts ?_) eqb5
  have hc : Ann.cuts annb5 = [([1, 1, 1, 1, 1, 1, 1, 1, 1, 1, 0, 1, 0], (cutEnt lb5_0 ob5_0 (loopO (stepb5_0))))] := by kernel_rfl
  rw [hc]
  intro x hx
  simp only [List.mem_cons, List.not_mem_nil, or_false] at hx
  rcases hx with rfl
  · have e : Code.at' [1, 1, 1, 1, 1, 1, 1, 1, 1, 1, 0, 1, 0] bodyb5 = Code.at' [1, 1, 1, 1, 1, 1, 1, 1, 1, 1, 0, 1, 0] bodyb5 := by kernel_rfl
    rw [e]; exact okb5_0

theorem entb5 : EntOk Go.Proofs.Try.prog 5 (funEntL Sb5 true Fb5) := fun_okL (fn := Go.Proofs.Try.f5) (c := bodyb5) (by kernel_rfl) (by kernel_rfl) (by kernel_rfl) (by kernel_rfl) callsb5
noncomputable def Eb5 : List (Nat × Ent) := (5, funEntL Sb5 true Fb5) :: Eb17
theorem Eb5_ok : EntsOk Go.Proofs.Try.prog (ofL Eb5) := .cons entb5 Eb17_ok
end Go.Abs
