import Derived.Test.YtpfcdkkbiemmpaaAbsExt
import Derived.Test.YtpfcdkkbiemmpaaChecked
import Derived.KernelRfl
set_option linter.unusedVariables false
set_option maxRecDepth 100000
namespace Go.Abs
def ptab : Tab := [
  (2, ⟨.int .i64, 1, 8, [.int .i64 0]⟩),
  (3, ⟨.int .i64, 1, 8, [.int .i64 0]⟩),
  (5, ⟨.int .u8, 1, 1, [.int .u8 0]⟩),
  (21, ⟨.int .i32, 1, 4, [.int .i32 0]⟩),
  (23, ⟨.array 256 21, 256, 1024, [.ints .i32 256 (fun _ => 0)]⟩),
  (25, ⟨.slice 5, 1, 24, [.val (.slice none 0 0)]⟩),
  (40, ⟨.int .u32, 1, 4, [.int .u32 0]⟩),
  (41, ⟨.array 256 40, 256, 1024, [.ints .u32 256 (fun _ => 0)]⟩),
  (45, ⟨.array 256 2, 256, 2048, [.ints .i64 256 (fun _ => 0)]⟩),
  (46, ⟨.int .u64, 1, 8, [.int .u64 0]⟩),
  (52, ⟨.int .u64, 1, 8, [.int .u64 0]⟩),
  (60, ⟨.array 25 52, 25, 200, [.ints .u64 25 (fun _ => 0)]⟩),
  (65, ⟨.array 5 52, 5, 40, [.ints .u64 5 (fun _ => 0)]⟩)]
theorem ptabOk : TabOk Go.Proofs.Try.prog ptab := tabChk_ok (by kernel_rfl)
theorem pdep : 4 ≤ (Go.Proofs.Try.prog).depth := by
  have : Nat.ble 4 ((Go.Proofs.Try.prog).depth) = true := by kernel_rfl
  exact Nat.le_of_ble_eq_true this
theorem pord : (Go.Proofs.Try.prog).follows .mixedOrders = true := by kernel_rfl
noncomputable def pE0 : List (Nat × Ent) := []
theorem pE0_ok : EntsOk Go.Proofs.Try.prog (ofL pE0) := .nil _

/-! ### barbican/pack.lay -/
noncomputable def bodyp18 : Code := (Go.Proofs.Try.f18.body).getD .skip
abbrev lp18_1 : Lay := ⟨[(5, .full 12)], [.env 1 (.c (.int .i64)), .env 6 (.c (.int .u64)), .env 7 (.c (.int .i64)), .env 13 (.agg [.ints .u32 256]), .env 14 (.c (.int .i64)), .reg 12 (.row 5 .u8)], [(12, 5)]⟩
abbrev op18_1 : List (AExit × Lay) := [(.exit 2, ⟨[(5, .full 12)], [.env 1 (.c (.int .i64)), .env 6 (.c (.int .u64)), .env 7 (.c (.int .i64)), .env 13 (.agg [.ints .u32 256]), .env 14 (.c (.int .i64)), .reg 12 (.row 5 .u8)], [(12, 5)]⟩)]
noncomputable def stepp18_1 : Int × Int × Int × (Nat → Int) × Int × List Int → Option ((Int × Int × Int × (Nat → Int) × Int × List Int) ⊕ ((Int × Int × Int × (Nat → Int) × Int × List Int)))
  | (t1, t6, t7, t13, t14, r12) =>
    if (decide (t7 ≥ 8)) = true then
      if okBytes (r12.length + ((List.replicate 1 (0 : Int)).set 0 (IntKind.u8.wrap t6)).length) 1 then
        let f2 : List Int := (r12 ++ ((List.replicate 1 (0 : Int)).set 0 (IntKind.u8.wrap t6)))
        some (.inl (t1, (shrI .u64 t6 8), (IntKind.i64.wrap (t7 - 8)), t13, t14, f2))
      else none
    else
      some (.inr (t1, t6, t7, t13, t14, r12))

noncomputable def annp18_1 : Ann := .none
abbrev lp18_0 : Lay := ⟨[(5, .full 12)], [.env 1 (.c (.int .i64)), .env 6 (.c (.int .u64)), .env 7 (.c (.int .i64)), .env 13 (.agg [.ints .u32 256]), .env 14 (.c (.int .i64)), .reg 12 (.row 5 .u8)], [(12, 5)]⟩
abbrev op18_0 : List (AExit × Lay) := [(.exit 0, ⟨[(5, .full 12)], [.reg 12 (.row 5 .u8)], [(12, 5)]⟩)]
noncomputable def stepp18_0 : Int × Int × Int × (Nat → Int) × Int × List Int → Option ((Int × Int × Int × (Nat → Int) × Int × List Int) ⊕ ((List Int)))
  | (t1, t6, t7, t13, t14, r12) =>
    if (decide (t14 < 256)) = true then
      if (0 : Int) ≤ t14 ∧ t14 < (256 : Int) then
        if 0 ≤ t7 then
          let x1 : Int := (bitsOr .u64 t6 (shlI .u64 (IntKind.u64.wrap (t13 t14.toNat)) t7))
          (loopO stepp18_1 (t1, x1, (IntKind.i64.wrap (t7 + t1)), t13, t14, r12)).bind fun (z3, z4, z5, z6, z7, z8) =>
            some (.inl (z3, z4, z5, z6, (IntKind.i64.wrap (z7 + 1)), z8))
        else none
      else none
    else
      some (.inr r12)

noncomputable def annp18_0 : Ann := (.seq .none (.seq .none (.seq (.seq (.seq .none (.seq .none (.seq .none (.seq (.cut (cutEnt lp18_1 op18_1 (loopO stepp18_1))) .none)))) .none) .none)))
noncomputable def Fp18 : (Nat → Int) × Int → Option (List Int)
  | (a0, a1) =>
    if 0 ≤ (0 : Int) ∧ (0 : Int) ≤ (IntKind.i64.wrap (32 * a1)) ∧ okBytes (IntKind.i64.wrap (32 * a1)).toNat 1 then
      (loopO stepp18_0 (a1, 0, 0, a0, 0, (List.replicate 0 (0 : Int)))).bind fun z9 =>
        some z9
    else none

noncomputable def annp18 : Ann := (.seq .none (.seq .none (.seq .none (.seq (.seq .none (.seq (.cut (cutEnt lp18_0 op18_0 (loopO stepp18_0))) .none)) .none))))
abbrev Sp18 : FSh := ⟨[.val (.agg [.ints .u32 256]), .val (.c (.int .i64))], [.row 5 .u8], [.tmp 4]⟩
noncomputable def cp18 : Ctx Go.Proofs.Try.prog := ⟨ptab, ofL pE0, ptabOk, pE0_ok, pdep, pord⟩
theorem eqp18_1 : ∀ s : lp18_1.T, exec ptab (ofL pE0) 39 (Code.at' [1, 1, 1, 0, 1, 0, 0, 1, 1, 0, 0, 1, 1, 1, 0, 0] bodyp18) annp18_1 (fun e st => loopEnd (l := lp18_1) (outs := op18_1) e st) (lp18_1.enc s) = stepp18_1 s := by
  rintro ⟨t1, t6, t7, t13, t14, r12⟩
  kernel_rfl
theorem okp18_1 : LOk Go.Proofs.Try.prog 39 (cutEnt lp18_1 op18_1 (loopO stepp18_1)) (Code.at' [1, 1, 1, 0, 1, 0, 0, 1, 1, 0, 0, 1, 1, 1, 0] bodyp18) := by
  have e : Code.at' [1, 1, 1, 0, 1, 0, 0, 1, 1, 0, 0, 1, 1, 1, 0] bodyp18 = .loop (Code.at' [1, 1, 1, 0, 1, 0, 0, 1, 1, 0, 0, 1, 1, 1, 0, 0] bodyp18) := by kernel_rfl
  rw [e]
  refine loop_ok cp18 39 rfl rfl (annOk_of_cuts ?_) eqp18_1
  intro x hx
  exact absurd hx (by show x ∉ ([] : List (List Nat × LEnt)); simp)

theorem eqp18_0 : ∀ s : lp18_0.T, exec ptab (ofL pE0) 39 (Code.at' [1, 1, 1, 0, 1, 0, 0] bodyp18) annp18_0 (fun e st => loopEnd (l := lp18_0) (outs := op18_0) e st) (lp18_0.enc s) = stepp18_0 s := by
  rintro ⟨t1, t6, t7, t13, t14, r12⟩
  kernel_rfl
theorem okp18_0 : LOk Go.Proofs.Try.prog 39 (cutEnt lp18_0 op18_0 (loopO stepp18_0)) (Code.at' [1, 1, 1, 0, 1, 0] bodyp18) := by
  have e : Code.at' [1, 1, 1, 0, 1, 0] bodyp18 = .loop (Code.at' [1, 1, 1, 0, 1, 0, 0] bodyp18) := by kernel_rfl
  rw [e]
  refine loop_ok cp18 39 rfl rfl (annOk_of_cuts ?_) eqp18_0
  have hc : Ann.cuts annp18_0 = [([1, 1, 0, 0, 1, 1, 1, 0], (cutEnt lp18_1 op18_1 (loopO stepp18_1)))] := by kernel_rfl
  rw [hc]
  intro x hx
  simp only [List.mem_cons, List.not_mem_nil, or_false] at hx
  rcases hx with rfl
  · have e : Code.at' [1, 1, 0, 0, 1, 1, 1, 0] (Code.at' [1, 1, 1, 0, 1, 0, 0] bodyp18) = Code.at' [1, 1, 1, 0, 1, 0, 0, 1, 1, 0, 0, 1, 1, 1, 0] bodyp18 := by kernel_rfl
    rw [e]; exact okp18_1

theorem eqp18 : ∀ x : psT Sp18.ps, exec ptab (ofL pE0) 39 bodyp18 annp18 (fin ptab Sp18) (argSt Sp18 x) = Fp18 x := by
  rintro ⟨a0, a1⟩
  kernel_rfl
theorem callsp18 : CallsAs Go.Proofs.Try.prog cp18 18 Sp18 Fp18 := by
  refine fun_calls (fn := Go.Proofs.Try.f18) (c := bodyp18) (ann := annp18) cp18 (by kernel_rfl) (by kernel_rfl) (by kernel_rfl) (by decide) (annOk_of_cuts ?_) eqp18
  have hc : Ann.cuts annp18 = [([1, 1, 1, 0, 1, 0], (cutEnt lp18_0 op18_0 (loopO stepp18_0)))] := by kernel_rfl
  rw [hc]
  intro x hx
  simp only [List.mem_cons, List.not_mem_nil, or_false] at hx
  rcases hx with rfl
  · have e : Code.at' [1, 1, 1, 0, 1, 0] bodyp18 = Code.at' [1, 1, 1, 0, 1, 0] bodyp18 := by kernel_rfl
    rw [e]; exact okp18_0

theorem entp18 : EntOk Go.Proofs.Try.prog 18 (funEnt Sp18 Fp18) := fun_ok cp18 (fn := Go.Proofs.Try.f18) (c := bodyp18) (by kernel_rfl) (by kernel_rfl) (by kernel_rfl) rfl rfl (by decide) callsp18
noncomputable def Ep18 : List (Nat × Ent) := (18, funEnt Sp18 Fp18) :: pE0
theorem Ep18_ok : EntsOk Go.Proofs.Try.prog (ofL Ep18) := .cons entp18 pE0_ok

/-! ### barbican/pack.Up -/
noncomputable def bodyp7 : Code := (Go.Proofs.Try.f7.body).getD .skip
abbrev lp7_0 : Lay := ⟨[(6, .ptr 6 0 256)], [.env 1 (.c (.int .i64)), .env 15 (.agg [.ints .i32 256]), .env 16 (.c (.int .i64)), .reg 6 (.cells [.ints .u32 256])], [(6, 6)]⟩
abbrev op7_0 : List (AExit × Lay) := [(.ret, ⟨[(4, .full 4)], [.env 5 (.c (.int .i64)), .reg 4 (.row 5 .u8)], [(4, 4)]⟩), (.exit 0, ⟨[(6, .ptr 6 0 256)], [.env 1 (.c (.int .i64)), .reg 6 (.cells [.ints .u32 256])], [(6, 6)]⟩)]
noncomputable def stepp7_0 : Int × (Nat → Int) × Int × (Nat → Int) → Option ((Int × (Nat → Int) × Int × (Nat → Int)) ⊕ ((Int × List Int) ⊕ (Int × (Nat → Int))))
  | (t1, t15, t16, r6) =>
    if (decide (t16 < 256)) = true then
      if (0 : Int) ≤ t16 ∧ t16 < (256 : Int) then
        if (decide ((t15 t16.toNat) < 0)) = false then
          if (decide ((t15 t16.toNat) ≥ 8380417)) = false then
            if 0 ≤ t1 then
              if ((shrI .i32 (t15 t16.toNat) t1) != 0) = true then
                some (.inr (.inl (92, ([] : List Int))))
              else
                if (0 : Int) ≤ t16 ∧ t16 < ((256 : Int) : Int) then
                  some (.inl (t1, t15, (IntKind.i64.wrap (t16 + 1)), (upd r6 t16.toNat (IntKind.u32.wrap (t15 t16.toNat)))))
                else none
            else none
          else
            some (.inr (.inl (92, ([] : List Int))))
        else
          some (.inr (.inl (92, ([] : List Int))))
      else none
    else
      some (.inr (.inr (t1, r6)))

noncomputable def annp7_0 : Ann := .none
noncomputable def Fp7 : (Nat → Int) × Int → Option (List Int × Int)
  | (a0, a1) =>
    if (decide (a1 < 1)) = false then
      if (decide (a1 > 23)) = true then
        some ([], 1)
      else
        (loopO stepp7_0 (a1, a0, 0, (fun _ => 0))).bind fun
          | (.inl (z2, z3)) =>
            some (z3, z2)
          | (.inr (z4, z5)) =>
            (Fp18 (z5, z4)).bind fun y6 =>
              some (y6, 0)
    else
      some ([], 1)

noncomputable def annp7 : Ann := (.seq .none (.seq .none (.seq .none (.seq (.seq .none (.seq (.cut (cutEnt lp7_0 op7_0 (loopO stepp7_0))) .none)) .none))))
abbrev Sp7 : FSh := ⟨[.val (.agg [.ints .i32 256]), .val (.c (.int .i64))], [.row 5 .u8, .val (.c (.int .i64))], [.tmp 4, .tmp 5]⟩
noncomputable def cp7 : Ctx Go.Proofs.Try.prog := ⟨ptab, ofL Ep18, ptabOk, Ep18_ok, pdep, pord⟩
theorem eqp7_0 : ∀ s : lp7_0.T, exec ptab (ofL Ep18) 40 (Code.at' [1, 1, 1, 0, 1, 0, 0] bodyp7) annp7_0 (fun e st => loopEnd (l := lp7_0) (outs := op7_0) e st) (lp7_0.enc s) = stepp7_0 s := by
  rintro ⟨t1, t15, t16, r6⟩
  kernel_rfl
theorem okp7_0 : LOk Go.Proofs.Try.prog 40 (cutEnt lp7_0 op7_0 (loopO stepp7_0)) (Code.at' [1, 1, 1, 0, 1, 0] bodyp7) := by
  have e : Code.at' [1, 1, 1, 0, 1, 0] bodyp7 = .loop (Code.at' [1, 1, 1, 0, 1, 0, 0] bodyp7) := by kernel_rfl
  rw [e]
  refine loop_ok cp7 40 rfl rfl (annOk_of_cuts ?_) eqp7_0
  intro x hx
  exact absurd hx (by show x ∉ ([] : List (List Nat × LEnt)); simp)

theorem eqp7 : ∀ x : psT Sp7.ps, exec ptab (ofL Ep18) 40 bodyp7 annp7 (fin ptab Sp7) (argSt Sp7 x) = Fp7 x := by
  rintro ⟨a0, a1⟩
  kernel_rfl
theorem callsp7 : CallsAs Go.Proofs.Try.prog cp7 7 Sp7 Fp7 := by
  refine fun_calls (fn := Go.Proofs.Try.f7) (c := bodyp7) (ann := annp7) cp7 (by kernel_rfl) (by kernel_rfl) (by kernel_rfl) (by decide) (annOk_of_cuts ?_) eqp7
  have hc : Ann.cuts annp7 = [([1, 1, 1, 0, 1, 0], (cutEnt lp7_0 op7_0 (loopO stepp7_0)))] := by kernel_rfl
  rw [hc]
  intro x hx
  simp only [List.mem_cons, List.not_mem_nil, or_false] at hx
  rcases hx with rfl
  · have e : Code.at' [1, 1, 1, 0, 1, 0] bodyp7 = Code.at' [1, 1, 1, 0, 1, 0] bodyp7 := by kernel_rfl
    rw [e]; exact okp7_0

theorem entp7 : EntOk Go.Proofs.Try.prog 7 (funEnt Sp7 Fp7) := fun_ok cp7 (fn := Go.Proofs.Try.f7) (c := bodyp7) (by kernel_rfl) (by kernel_rfl) (by kernel_rfl) rfl rfl (by decide) callsp7
noncomputable def Ep7 : List (Nat × Ent) := (7, funEnt Sp7 Fp7) :: Ep18
theorem Ep7_ok : EntsOk Go.Proofs.Try.prog (ofL Ep7) := .cons entp7 Ep18_ok

/-! ### barbican/pack.wrong -/
noncomputable def bodyp19 : Code := (Go.Proofs.Try.f19.body).getD .skip
noncomputable def Fp19 : Int × Int → Option (Bool)
  | (a0, a1) =>
    if (decide (a1 < 1)) = false then
      if (decide (a1 > 22)) = false then
        if (decide (a0 < 0)) = false then
          some (decide (a0 > 4194304))
        else
          some true
      else
        some true
    else
      some true

noncomputable def annp19 : Ann := .none
abbrev Sp19 : FSh := ⟨[.val (.c (.int .i32)), .val (.c (.int .i64))], [.val (.c (.bool))], [.tmp 4]⟩
noncomputable def cp19 : Ctx Go.Proofs.Try.prog := ⟨ptab, ofL Ep7, ptabOk, Ep7_ok, pdep, pord⟩
theorem eqp19 : ∀ x : psT Sp19.ps, exec ptab (ofL Ep7) 19 bodyp19 annp19 (fin ptab Sp19) (argSt Sp19 x) = Fp19 x := by
  rintro ⟨a0, a1⟩
  kernel_rfl
theorem callsp19 : CallsAs Go.Proofs.Try.prog cp19 19 Sp19 Fp19 := by
  refine fun_calls (fn := Go.Proofs.Try.f19) (c := bodyp19) (ann := annp19) cp19 (by kernel_rfl) (by kernel_rfl) (by kernel_rfl) (by decide) (annOk_of_cuts ?_) eqp19
  intro x hx
  exact absurd hx (by show x ∉ ([] : List (List Nat × LEnt)); simp)

theorem entp19 : EntOk Go.Proofs.Try.prog 19 (funEnt Sp19 Fp19) := fun_ok cp19 (fn := Go.Proofs.Try.f19) (c := bodyp19) (by kernel_rfl) (by kernel_rfl) (by kernel_rfl) rfl rfl (by decide) callsp19
noncomputable def Ep19 : List (Nat × Ent) := (19, funEnt Sp19 Fp19) :: Ep7
theorem Ep19_ok : EntsOk Go.Proofs.Try.prog (ofL Ep19) := .cons entp19 Ep7_ok

/-! ### barbican/pack.Down -/
noncomputable def bodyp8 : Code := (Go.Proofs.Try.f8.body).getD .skip
abbrev lp8_0 : Lay := ⟨[(8, .ptr 8 0 256)], [.env 1 (.c (.int .i32)), .env 2 (.c (.int .i64)), .env 14 (.agg [.ints .i32 256]), .env 15 (.c (.int .i64)), .reg 8 (.cells [.ints .u32 256])], [(8, 8)]⟩
abbrev op8_0 : List (AExit × Lay) := [(.ret, ⟨[(6, .full 6)], [.env 7 (.c (.int .i64)), .reg 6 (.row 5 .u8)], [(6, 6)]⟩), (.exit 0, ⟨[(8, .ptr 8 0 256)], [.env 2 (.c (.int .i64)), .reg 8 (.cells [.ints .u32 256])], [(8, 8)]⟩)]
noncomputable def stepp8_0 : Int × Int × (Nat → Int) × Int × (Nat → Int) → Option ((Int × Int × (Nat → Int) × Int × (Nat → Int)) ⊕ ((Int × List Int) ⊕ (Int × (Nat → Int))))
  | (t1, t2, t14, t15, r8) =>
    if (decide (t15 < 256)) = true then
      if (0 : Int) ≤ t15 ∧ t15 < (256 : Int) then
        if (decide ((t14 t15.toNat) < 0)) = false then
          if (decide ((t14 t15.toNat) ≥ 8380417)) = true then
            some (.inr (.inl (92, ([] : List Int))))
          else
            if (decide ((t14 t15.toNat) > 4190208)) = true then
              let x2 : Int := (IntKind.i32.wrap (t1 - (IntKind.i32.wrap ((t14 t15.toNat) - 8380417))))
              if (decide (x2 < 0)) = false then
                if 0 ≤ t2 then
                  if ((shrI .i32 x2 t2) != 0) = true then
                    some (.inr (.inl (92, ([] : List Int))))
                  else
                    if (0 : Int) ≤ t15 ∧ t15 < ((256 : Int) : Int) then
                      some (.inl (t1, t2, t14, (IntKind.i64.wrap (t15 + 1)), (upd r8 t15.toNat (IntKind.u32.wrap x2))))
                    else none
                else none
              else
                some (.inr (.inl (92, ([] : List Int))))
            else
              if (decide ((IntKind.i32.wrap (t1 - (t14 t15.toNat))) < 0)) = false then
                if 0 ≤ t2 then
                  let x3 : Bool := ((shrI .i32 (IntKind.i32.wrap (t1 - (t14 t15.toNat))) t2) != 0)
                  if x3 = true then
                    some (.inr (.inl (92, ([] : List Int))))
                  else
                    if (0 : Int) ≤ t15 ∧ t15 < ((256 : Int) : Int) then
                      let f4 : Nat → Int := (upd r8 t15.toNat (IntKind.u32.wrap (IntKind.i32.wrap (t1 - (t14 t15.toNat)))))
                      some (.inl (t1, t2, t14, (IntKind.i64.wrap (t15 + 1)), f4))
                    else none
                else none
              else
                some (.inr (.inl (92, ([] : List Int))))
        else
          some (.inr (.inl (92, ([] : List Int))))
      else none
    else
      some (.inr (.inr (t2, r8)))

noncomputable def annp8_0 : Ann := .none
noncomputable def Fp8 : (Nat → Int) × Int × Int → Option (List Int × Int)
  | (a0, a1, a2) =>
    (Fp19 (a1, a2)).bind fun y1 =>
      if y1 = true then
        some ([], 1)
      else
        (loopO stepp8_0 (a1, a2, a0, 0, (fun _ => 0))).bind fun
          | (.inl (z6, z7)) =>
            some (z7, z6)
          | (.inr (z8, z9)) =>
            (Fp18 (z9, z8)).bind fun y10 =>
              some (y10, 0)

noncomputable def annp8 : Ann := (.seq .none (.seq .none (.seq .none (.seq (.seq .none (.seq (.cut (cutEnt lp8_0 op8_0 (loopO stepp8_0))) .none)) .none))))
abbrev Sp8 : FSh := ⟨[.val (.agg [.ints .i32 256]), .val (.c (.int .i32)), .val (.c (.int .i64))], [.row 5 .u8, .val (.c (.int .i64))], [.tmp 6, .tmp 7]⟩
noncomputable def cp8 : Ctx Go.Proofs.Try.prog := ⟨ptab, ofL Ep19, ptabOk, Ep19_ok, pdep, pord⟩
theorem eqp8_0 : ∀ s : lp8_0.T, exec ptab (ofL Ep19) 48 (Code.at' [1, 1, 1, 0, 1, 0, 0] bodyp8) annp8_0 (fun e st => loopEnd (l := lp8_0) (outs := op8_0) e st) (lp8_0.enc s) = stepp8_0 s := by
  rintro ⟨t1, t2, t14, t15, r8⟩
  kernel_rfl
theorem okp8_0 : LOk Go.Proofs.Try.prog 48 (cutEnt lp8_0 op8_0 (loopO stepp8_0)) (Code.at' [1, 1, 1, 0, 1, 0] bodyp8) := by
  have e : Code.at' [1, 1, 1, 0, 1, 0] bodyp8 = .loop (Code.at' [1, 1, 1, 0, 1, 0, 0] bodyp8) := by kernel_rfl
  rw [e]
  refine loop_ok cp8 48 rfl rfl (annOk_of_cuts ?_) eqp8_0
  intro x hx
  exact absurd hx (by show x ∉ ([] : List (List Nat × LEnt)); simp)

theorem eqp8 : ∀ x : psT Sp8.ps, exec ptab (ofL Ep19) 48 bodyp8 annp8 (fin ptab Sp8) (argSt Sp8 x) = Fp8 x := by
  rintro ⟨a0, a1, a2⟩
  kernel_rfl
theorem callsp8 : CallsAs Go.Proofs.Try.prog cp8 8 Sp8 Fp8 := by
  refine fun_calls (fn := Go.Proofs.Try.f8) (c := bodyp8) (ann := annp8) cp8 (by kernel_rfl) (by kernel_rfl) (by kernel_rfl) (by decide) (annOk_of_cuts ?_) eqp8
  have hc : Ann.cuts annp8 = [([1, 1, 1, 0, 1, 0], (cutEnt lp8_0 op8_0 (loopO stepp8_0)))] := by kernel_rfl
  rw [hc]
  intro x hx
  simp only [List.mem_cons, List.not_mem_nil, or_false] at hx
  rcases hx with rfl
  · have e : Code.at' [1, 1, 1, 0, 1, 0] bodyp8 = Code.at' [1, 1, 1, 0, 1, 0] bodyp8 := by kernel_rfl
    rw [e]; exact okp8_0

theorem entp8 : EntOk Go.Proofs.Try.prog 8 (funEnt Sp8 Fp8) := fun_ok cp8 (fn := Go.Proofs.Try.f8) (c := bodyp8) (by kernel_rfl) (by kernel_rfl) (by kernel_rfl) rfl rfl (by decide) callsp8
noncomputable def Ep8 : List (Nat × Ent) := (8, funEnt Sp8 Fp8) :: Ep19
theorem Ep8_ok : EntsOk Go.Proofs.Try.prog (ofL Ep8) := .cons entp8 Ep19_ok

/-! ### barbican/barbicanlaw09.awake -/
noncomputable def bodyp6 : Code := (Go.Proofs.Try.f6.body).getD .skip
noncomputable def Fp6 : Unit → Option (Bool)
  | _ =>
    (Fp7 ((upd (upd (fun _ => 0) 0 0) 1 1), 1)).bind fun (y1, y2) =>
      (Fp8 ((fun _ => 0), 3, 2)).bind fun (y3, y4) =>
        if (y2 == 0) = true then
          if ((y1.length : Int) == 32) = true then
            if (0 : Int) ≤ (0 : Int) ∧ (0 : Int) < (y1.length : Int) then
              if ((y1.getD 0 0) == 2) = true then
                if (y4 == 0) = true then
                  if ((y3.length : Int) == 64) = true then
                    if (0 : Int) ≤ (0 : Int) ∧ (0 : Int) < (y3.length : Int) then
                      some ((y3.getD 0 0) == 255)
                    else none
                  else
                    some false
                else
                  some false
              else
                some false
            else none
          else
            some false
        else
          some false

noncomputable def annp6 : Ann := .none
abbrev Sp6 : FSh := ⟨[], [.val (.c (.bool))], [.tmp 0]⟩
noncomputable def cp6 : Ctx Go.Proofs.Try.prog := ⟨ptab, ofL Ep8, ptabOk, Ep8_ok, pdep, pord⟩
theorem eqp6 : ∀ x : psT Sp6.ps, exec ptab (ofL Ep8) 43 bodyp6 annp6 (fin ptab Sp6) (argSt Sp6 x) = Fp6 x := by
  intro x
  kernel_rfl
theorem callsp6 : CallsAs Go.Proofs.Try.prog cp6 6 Sp6 Fp6 := by
  refine fun_calls (fn := Go.Proofs.Try.f6) (c := bodyp6) (ann := annp6) cp6 (by kernel_rfl) (by kernel_rfl) (by kernel_rfl) (by decide) (annOk_of_cuts ?_) eqp6
  intro x hx
  exact absurd hx (by show x ∉ ([] : List (List Nat × LEnt)); simp)

theorem entp6 : EntOk Go.Proofs.Try.prog 6 (funEnt Sp6 Fp6) := fun_ok cp6 (fn := Go.Proofs.Try.f6) (c := bodyp6) (by kernel_rfl) (by kernel_rfl) (by kernel_rfl) rfl rfl (by decide) callsp6
noncomputable def Ep6 : List (Nat × Ent) := (6, funEnt Sp6 Fp6) :: Ep8
theorem Ep6_ok : EntsOk Go.Proofs.Try.prog (ofL Ep6) := .cons entp6 Ep8_ok

/-! ### barbican/barbicanref08.Plain -/
noncomputable def bodyp20 : Code := (Go.Proofs.Try.f20.body).getD .skip
abbrev lp20_0 : Lay := ⟨[(1, .ptr 1 0 256)], [.env 3 (.c (.int .i64)), .reg 1 (.cells [.ints .i32 256])], [(1, 1)]⟩
abbrev op20_0 : List (AExit × Lay) := [(.ret, ⟨[], [.env 2 (.c (.bool))], []⟩), (.exit 0, ⟨[], [], []⟩)]
noncomputable def stepp20_0 : Int × (Nat → Int) → Option ((Int × (Nat → Int)) ⊕ ((Bool) ⊕ (Unit)))
  | (t3, r1) =>
    if (decide (t3 < 256)) = true then
      if (0 : Int) ≤ t3 ∧ t3 < ((256 : Int) : Int) then
        if (decide ((r1 t3.toNat) < 0)) = false then
          if (0 : Int) ≤ t3 ∧ t3 < ((256 : Int) : Int) then
            if (decide ((r1 t3.toNat) ≥ 8380417)) = true then
              some (.inr (.inl false))
            else
              some (.inl ((IntKind.i64.wrap (t3 + 1)), r1))
          else none
        else
          some (.inr (.inl false))
      else none
    else
      some (.inr (.inr ()))

noncomputable def annp20_0 : Ann := .none
noncomputable def Fp20 : (Nat → Int) → Option (Bool)
  | a0 =>
    (loopO stepp20_0 (0, a0)).bind fun
      | (.inl z2) =>
        some z2
      | (.inr _) =>
        some true

noncomputable def annp20 : Ann := (.seq .none (.seq (.seq .none (.seq (.cut (cutEnt lp20_0 op20_0 (loopO stepp20_0))) .none)) .none))
abbrev Sp20 : FSh := ⟨[.val (.agg [.ints .i32 256])], [.val (.c (.bool))], [.tmp 2]⟩
noncomputable def cp20 : Ctx Go.Proofs.Try.prog := ⟨ptab, ofL Ep6, ptabOk, Ep6_ok, pdep, pord⟩
theorem eqp20_0 : ∀ s : lp20_0.T, exec ptab (ofL Ep6) 18 (Code.at' [1, 0, 1, 0, 0] bodyp20) annp20_0 (fun e st => loopEnd (l := lp20_0) (outs := op20_0) e st) (lp20_0.enc s) = stepp20_0 s := by
  rintro ⟨t3, r1⟩
  kernel_rfl
theorem okp20_0 : LOk Go.Proofs.Try.prog 18 (cutEnt lp20_0 op20_0 (loopO stepp20_0)) (Code.at' [1, 0, 1, 0] bodyp20) := by
  have e : Code.at' [1, 0, 1, 0] bodyp20 = .loop (Code.at' [1, 0, 1, 0, 0] bodyp20) := by kernel_rfl
  rw [e]
  refine loop_ok cp20 18 rfl rfl (annOk_of_cuts ?_) eqp20_0
  intro x hx
  exact absurd hx (by show x ∉ ([] : List (List Nat × LEnt)); simp)

theorem eqp20 : ∀ x : psT Sp20.ps, exec ptab (ofL Ep6) 18 bodyp20 annp20 (fin ptab Sp20) (argSt Sp20 x) = Fp20 x := by
  intro x
  kernel_rfl
theorem callsp20 : CallsAs Go.Proofs.Try.prog cp20 20 Sp20 Fp20 := by
  refine fun_calls (fn := Go.Proofs.Try.f20) (c := bodyp20) (ann := annp20) cp20 (by kernel_rfl) (by kernel_rfl) (by kernel_rfl) (by decide) (annOk_of_cuts ?_) eqp20
  have hc : Ann.cuts annp20 = [([1, 0, 1, 0], (cutEnt lp20_0 op20_0 (loopO stepp20_0)))] := by kernel_rfl
  rw [hc]
  intro x hx
  simp only [List.mem_cons, List.not_mem_nil, or_false] at hx
  rcases hx with rfl
  · have e : Code.at' [1, 0, 1, 0] bodyp20 = Code.at' [1, 0, 1, 0] bodyp20 := by kernel_rfl
    rw [e]; exact okp20_0

theorem entp20 : EntOk Go.Proofs.Try.prog 20 (funEnt Sp20 Fp20) := fun_ok cp20 (fn := Go.Proofs.Try.f20) (c := bodyp20) (by kernel_rfl) (by kernel_rfl) (by kernel_rfl) rfl rfl (by decide) callsp20
noncomputable def Ep20 : List (Nat × Ent) := (20, funEnt Sp20 Fp20) :: Ep6
theorem Ep20_ok : EntsOk Go.Proofs.Try.prog (ofL Ep20) := .cons entp20 Ep6_ok

/-! ### barbican/barbicanref09.Lay -/
noncomputable def bodyp21 : Code := (Go.Proofs.Try.f21.body).getD .skip
abbrev lp21_1 : Lay := ⟨[(2, .ptr 2 0 256), (5, .full 12)], [.env 1 (.c (.int .i64)), .env 6 (.c (.int .i64)), .env 7 (.c (.int .i64)), .env 8 (.c (.int .i64)), .reg 2 (.cells [.ints .i64 256]), .reg 12 (.row 5 .u8)], [(2, 2), (12, 5)]⟩
abbrev op21_1 : List (AExit × Lay) := [(.exit 2, ⟨[(2, .ptr 2 0 256), (5, .full 12)], [.env 1 (.c (.int .i64)), .env 6 (.c (.int .i64)), .reg 2 (.cells [.ints .i64 256]), .reg 12 (.row 5 .u8)], [(2, 2), (12, 5)]⟩)]
noncomputable def stepp21_1 : Int × Int × Int × Int × (Nat → Int) × List Int → Option ((Int × Int × Int × Int × (Nat → Int) × List Int) ⊕ ((Int × Int × (Nat → Int) × List Int)))
  | (t1, t6, t7, t8, r2, r12) =>
    if (decide (t8 < t1)) = true then
      let x2 : Int := (IntKind.i64.wrap ((IntKind.i64.wrap ((IntKind.i64.wrap (t6 * t1)) + t8)).tdiv 8))
      let x3 : Int := (IntKind.i64.wrap ((IntKind.i64.wrap ((IntKind.i64.wrap (t6 * t1)) + t8)).tdiv 8))
      if (0 : Int) ≤ x3 ∧ x3 < (r12.length : Int) then
        let x4 : Int := ((IntKind.i64.wrap ((IntKind.i64.wrap (t6 * t1)) + t8)).tmod 8)
        if 0 ≤ (IntKind.u64.wrap x4) then
          let x5 : Int := (shlI .u8 (IntKind.u8.wrap (t7.tmod 2)) (IntKind.u64.wrap x4))
          if (0 : Int) ≤ x2 ∧ x2 < (r12.length : Int) then
            let f6 : List Int := (r12.set x2.toNat (IntKind.u8.wrap ((r12.getD x3.toNat 0) + x5)))
            some (.inl (t1, t6, (IntKind.i64.wrap (t7.tdiv 2)), (IntKind.i64.wrap (t8 + 1)), r2, f6))
          else none
        else none
      else none
    else
      some (.inr (t1, t6, r2, r12))

noncomputable def annp21_1 : Ann := .none
abbrev lp21_0 : Lay := ⟨[(2, .ptr 2 0 256), (5, .full 12)], [.env 1 (.c (.int .i64)), .env 6 (.c (.int .i64)), .reg 2 (.cells [.ints .i64 256]), .reg 12 (.row 5 .u8)], [(2, 2), (12, 5)]⟩
abbrev op21_0 : List (AExit × Lay) := [(.exit 0, ⟨[(5, .full 12)], [.reg 12 (.row 5 .u8)], [(12, 5)]⟩)]
noncomputable def stepp21_0 : Int × Int × (Nat → Int) × List Int → Option ((Int × Int × (Nat → Int) × List Int) ⊕ ((List Int)))
  | (t1, t6, r2, r12) =>
    if (decide (t6 < 256)) = true then
      if (0 : Int) ≤ t6 ∧ t6 < ((256 : Int) : Int) then
        (loopO stepp21_1 (t1, t6, (r2 t6.toNat), 0, r2, r12)).bind fun (z7, z8, z9, z10) =>
          some (.inl (z7, (IntKind.i64.wrap (z8 + 1)), z9, z10))
      else none
    else
      some (.inr r12)

noncomputable def annp21_0 : Ann := (.seq .none (.seq (.seq (.seq .none (.seq .none (.seq (.cut (cutEnt lp21_1 op21_1 (loopO stepp21_1))) .none))) .none) .none))
noncomputable def Fp21 : (Nat → Int) × Int → Option (List Int)
  | (a0, a1) =>
    if 0 ≤ (IntKind.i64.wrap (32 * a1)) ∧ (IntKind.i64.wrap (32 * a1)) ≤ (IntKind.i64.wrap (32 * a1)) ∧ okBytes (IntKind.i64.wrap (32 * a1)).toNat 1 then
      let f1 : List Int := (List.replicate (IntKind.i64.wrap (32 * a1)).toNat (0 : Int))
      (loopO stepp21_0 (a1, 0, a0, f1)).bind fun z11 =>
        some z11
    else none

noncomputable def annp21 : Ann := (.seq .none (.seq .none (.seq (.seq .none (.seq (.cut (cutEnt lp21_0 op21_0 (loopO stepp21_0))) .none)) .none)))
abbrev Sp21 : FSh := ⟨[.val (.agg [.ints .i64 256]), .val (.c (.int .i64))], [.row 5 .u8], [.tmp 4]⟩
noncomputable def cp21 : Ctx Go.Proofs.Try.prog := ⟨ptab, ofL Ep20, ptabOk, Ep20_ok, pdep, pord⟩
theorem eqp21_1 : ∀ s : lp21_1.T, exec ptab (ofL Ep20) 50 (Code.at' [1, 1, 0, 1, 0, 0, 1, 0, 0, 1, 1, 0, 0] bodyp21) annp21_1 (fun e st => loopEnd (l := lp21_1) (outs := op21_1) e st) (lp21_1.enc s) = stepp21_1 s := by
  rintro ⟨t1, t6, t7, t8, r2, r12⟩
  kernel_rfl
theorem okp21_1 : LOk Go.Proofs.Try.prog 50 (cutEnt lp21_1 op21_1 (loopO stepp21_1)) (Code.at' [1, 1, 0, 1, 0, 0, 1, 0, 0, 1, 1, 0] bodyp21) := by
  have e : Code.at' [1, 1, 0, 1, 0, 0, 1, 0, 0, 1, 1, 0] bodyp21 = .loop (Code.at' [1, 1, 0, 1, 0, 0, 1, 0, 0, 1, 1, 0, 0] bodyp21) := by kernel_rfl
  rw [e]
  refine loop_ok cp21 50 rfl rfl (annOk_of_cuts ?_) eqp21_1
  intro x hx
  exact absurd hx (by show x ∉ ([] : List (List Nat × LEnt)); simp)

theorem eqp21_0 : ∀ s : lp21_0.T, exec ptab (ofL Ep20) 50 (Code.at' [1, 1, 0, 1, 0, 0] bodyp21) annp21_0 (fun e st => loopEnd (l := lp21_0) (outs := op21_0) e st) (lp21_0.enc s) = stepp21_0 s := by
  rintro ⟨t1, t6, r2, r12⟩
  kernel_rfl
theorem okp21_0 : LOk Go.Proofs.Try.prog 50 (cutEnt lp21_0 op21_0 (loopO stepp21_0)) (Code.at' [1, 1, 0, 1, 0] bodyp21) := by
  have e : Code.at' [1, 1, 0, 1, 0] bodyp21 = .loop (Code.at' [1, 1, 0, 1, 0, 0] bodyp21) := by kernel_rfl
  rw [e]
  refine loop_ok cp21 50 rfl rfl (annOk_of_cuts ?_) eqp21_0
  have hc : Ann.cuts annp21_0 = [([1, 0, 0, 1, 1, 0], (cutEnt lp21_1 op21_1 (loopO stepp21_1)))] := by kernel_rfl
  rw [hc]
  intro x hx
  simp only [List.mem_cons, List.not_mem_nil, or_false] at hx
  rcases hx with rfl
  · have e : Code.at' [1, 0, 0, 1, 1, 0] (Code.at' [1, 1, 0, 1, 0, 0] bodyp21) = Code.at' [1, 1, 0, 1, 0, 0, 1, 0, 0, 1, 1, 0] bodyp21 := by kernel_rfl
    rw [e]; exact okp21_1

theorem eqp21 : ∀ x : psT Sp21.ps, exec ptab (ofL Ep20) 50 bodyp21 annp21 (fin ptab Sp21) (argSt Sp21 x) = Fp21 x := by
  rintro ⟨a0, a1⟩
  kernel_rfl
theorem callsp21 : CallsAs Go.Proofs.Try.prog cp21 21 Sp21 Fp21 := by
  refine fun_calls (fn := Go.Proofs.Try.f21) (c := bodyp21) (ann := annp21) cp21 (by kernel_rfl) (by kernel_rfl) (by kernel_rfl) (by decide) (annOk_of_cuts ?_) eqp21
  have hc : Ann.cuts annp21 = [([1, 1, 0, 1, 0], (cutEnt lp21_0 op21_0 (loopO stepp21_0)))] := by kernel_rfl
  rw [hc]
  intro x hx
  simp only [List.mem_cons, List.not_mem_nil, or_false] at hx
  rcases hx with rfl
  · have e : Code.at' [1, 1, 0, 1, 0] bodyp21 = Code.at' [1, 1, 0, 1, 0] bodyp21 := by kernel_rfl
    rw [e]; exact okp21_0

theorem entp21 : EntOk Go.Proofs.Try.prog 21 (funEnt Sp21 Fp21) := fun_ok cp21 (fn := Go.Proofs.Try.f21) (c := bodyp21) (by kernel_rfl) (by kernel_rfl) (by kernel_rfl) rfl rfl (by decide) callsp21
noncomputable def Ep21 : List (Nat × Ent) := (21, funEnt Sp21 Fp21) :: Ep20
theorem Ep21_ok : EntsOk Go.Proofs.Try.prog (ofL Ep21) := .cons entp21 Ep20_ok

/-! ### barbican/barbicanref09.Up -/
noncomputable def bodyp9 : Code := (Go.Proofs.Try.f9.body).getD .skip
abbrev lp9_0 : Lay := ⟨[(2, .ptr 2 0 256), (7, .ptr 7 0 256)], [.env 1 (.c (.int .i64)), .env 6 (.c (.bool)), .env 8 (.c (.int .i64)), .reg 2 (.cells [.ints .i32 256]), .reg 7 (.cells [.ints .i64 256])], [(2, 2), (7, 7)]⟩
abbrev op9_0 : List (AExit × Lay) := [(.ret, ⟨[(4, .full 4)], [.env 5 (.c (.int .i64)), .reg 4 (.row 5 .u8)], [(4, 4)]⟩), (.exit 0, ⟨[(7, .ptr 7 0 256)], [.env 1 (.c (.int .i64)), .reg 7 (.cells [.ints .i64 256])], [(7, 7)]⟩)]
noncomputable def stepp9_0 : Int × Bool × Int × (Nat → Int) × (Nat → Int) → Option ((Int × Bool × Int × (Nat → Int) × (Nat → Int)) ⊕ ((Int × List Int) ⊕ (Int × (Nat → Int))))
  | (t1, t6, t8, r2, r7) =>
    if (decide (t8 < 256)) = true then
      if (0 : Int) ≤ t8 ∧ t8 < ((256 : Int) : Int) then
        if (0 : Int) ≤ t8 ∧ t8 < ((256 : Int) : Int) then
          if (!t6) = false then
            if (0 : Int) ≤ t8 ∧ t8 < ((256 : Int) : Int) then
              let x2 : Int := ((upd r7 t8.toNat (IntKind.i64.wrap (r2 t8.toNat))) t8.toNat)
              if 0 ≤ (IntKind.u64.wrap t1) then
                if (decide (x2 ≥ (shlI .i64 1 (IntKind.u64.wrap t1)))) = true then
                  some (.inr (.inl (92, ([] : List Int))))
                else
                  some (.inl (t1, t6, (IntKind.i64.wrap (t8 + 1)), r2, (upd r7 t8.toNat (IntKind.i64.wrap (r2 t8.toNat)))))
              else none
            else none
          else
            some (.inr (.inl (92, ([] : List Int))))
        else none
      else none
    else
      some (.inr (.inr (t1, r7)))

noncomputable def annp9_0 : Ann := .none
noncomputable def Fp9 : (Nat → Int) × Int → Option (List Int × Int)
  | (a0, a1) =>
    if (decide (a1 < 1)) = false then
      if (decide (a1 > 23)) = true then
        some ([], 1)
      else
        (Fp20 a0).bind fun y1 =>
          (loopO stepp9_0 (a1, y1, 0, a0, (fun _ => 0))).bind fun
            | (.inl (z4, z5)) =>
              some (z5, z4)
            | (.inr (z6, z7)) =>
              (Fp21 (z7, z6)).bind fun y8 =>
                some (y8, 0)
    else
      some ([], 1)

noncomputable def annp9 : Ann := (.seq .none (.seq .none (.seq .none (.seq .none (.seq (.seq .none (.seq (.cut (cutEnt lp9_0 op9_0 (loopO stepp9_0))) .none)) .none)))))
abbrev Sp9 : FSh := ⟨[.val (.agg [.ints .i32 256]), .val (.c (.int .i64))], [.row 5 .u8, .val (.c (.int .i64))], [.tmp 4, .tmp 5]⟩
noncomputable def cp9 : Ctx Go.Proofs.Try.prog := ⟨ptab, ofL Ep21, ptabOk, Ep21_ok, pdep, pord⟩
theorem eqp9_0 : ∀ s : lp9_0.T, exec ptab (ofL Ep21) 41 (Code.at' [1, 1, 1, 1, 0, 1, 0, 0] bodyp9) annp9_0 (fun e st => loopEnd (l := lp9_0) (outs := op9_0) e st) (lp9_0.enc s) = stepp9_0 s := by
  rintro ⟨t1, t6, t8, r2, r7⟩
  kernel_rfl
theorem okp9_0 : LOk Go.Proofs.Try.prog 41 (cutEnt lp9_0 op9_0 (loopO stepp9_0)) (Code.at' [1, 1, 1, 1, 0, 1, 0] bodyp9) := by
  have e : Code.at' [1, 1, 1, 1, 0, 1, 0] bodyp9 = .loop (Code.at' [1, 1, 1, 1, 0, 1, 0, 0] bodyp9) := by kernel_rfl
  rw [e]
  refine loop_ok cp9 41 rfl rfl (annOk_of_cuts ?_) eqp9_0
  intro x hx
  exact absurd hx (by show x ∉ ([] : List (List Nat × LEnt)); simp)

theorem eqp9 : ∀ x : psT Sp9.ps, exec ptab (ofL Ep21) 41 bodyp9 annp9 (fin ptab Sp9) (argSt Sp9 x) = Fp9 x := by
  rintro ⟨a0, a1⟩
  kernel_rfl
theorem callsp9 : CallsAs Go.Proofs.Try.prog cp9 9 Sp9 Fp9 := by
  refine fun_calls (fn := Go.Proofs.Try.f9) (c := bodyp9) (ann := annp9) cp9 (by kernel_rfl) (by kernel_rfl) (by kernel_rfl) (by decide) (annOk_of_cuts ?_) eqp9
  have hc : Ann.cuts annp9 = [([1, 1, 1, 1, 0, 1, 0], (cutEnt lp9_0 op9_0 (loopO stepp9_0)))] := by kernel_rfl
  rw [hc]
  intro x hx
  simp only [List.mem_cons, List.not_mem_nil, or_false] at hx
  rcases hx with rfl
  · have e : Code.at' [1, 1, 1, 1, 0, 1, 0] bodyp9 = Code.at' [1, 1, 1, 1, 0, 1, 0] bodyp9 := by kernel_rfl
    rw [e]; exact okp9_0

theorem entp9 : EntOk Go.Proofs.Try.prog 9 (funEnt Sp9 Fp9) := fun_ok cp9 (fn := Go.Proofs.Try.f9) (c := bodyp9) (by kernel_rfl) (by kernel_rfl) (by kernel_rfl) rfl rfl (by decide) callsp9
noncomputable def Ep9 : List (Nat × Ent) := (9, funEnt Sp9 Fp9) :: Ep21
theorem Ep9_ok : EntsOk Go.Proofs.Try.prog (ofL Ep9) := .cons entp9 Ep21_ok

/-! ### barbican/barbicanref08.Centred -/
noncomputable def bodyp17 : Code := (Go.Proofs.Try.f17.body).getD .skip
noncomputable def Fp17 : Int → Option (Int)
  | a0 =>
    if (decide (a0 > 4190208)) = true then
      some (IntKind.i32.wrap (a0 - 8380417))
    else
      some a0

noncomputable def annp17 : Ann := .none
abbrev Sp17 : FSh := ⟨[.val (.c (.int .i32))], [.val (.c (.int .i32))], [.tmp 2]⟩
noncomputable def cp17 : Ctx Go.Proofs.Try.prog := ⟨ptab, ofL Ep9, ptabOk, Ep9_ok, pdep, pord⟩
theorem eqp17 : ∀ x : psT Sp17.ps, exec ptab (ofL Ep9) 8 bodyp17 annp17 (fin ptab Sp17) (argSt Sp17 x) = Fp17 x := by
  intro x
  kernel_rfl
theorem callsp17 : CallsAs Go.Proofs.Try.prog cp17 17 Sp17 Fp17 := by
  refine fun_calls (fn := Go.Proofs.Try.f17) (c := bodyp17) (ann := annp17) cp17 (by kernel_rfl) (by kernel_rfl) (by kernel_rfl) (by decide) (annOk_of_cuts ?_) eqp17
  intro x hx
  exact absurd hx (by show x ∉ ([] : List (List Nat × LEnt)); simp)

theorem entp17 : EntOk Go.Proofs.Try.prog 17 (funEnt Sp17 Fp17) := fun_ok cp17 (fn := Go.Proofs.Try.f17) (c := bodyp17) (by kernel_rfl) (by kernel_rfl) (by kernel_rfl) rfl rfl (by decide) callsp17
noncomputable def Ep17 : List (Nat × Ent) := (17, funEnt Sp17 Fp17) :: Ep9
theorem Ep17_ok : EntsOk Go.Proofs.Try.prog (ofL Ep17) := .cons entp17 Ep9_ok

/-! ### barbican/barbicanref09.Down -/
noncomputable def bodyp10 : Code := (Go.Proofs.Try.f10.body).getD .skip
abbrev lp10_0 : Lay := ⟨[(3, .ptr 3 0 256), (9, .ptr 9 0 256)], [.env 1 (.c (.int .i32)), .env 2 (.c (.int .i64)), .env 10 (.c (.int .i64)), .reg 3 (.cells [.ints .i32 256]), .reg 9 (.cells [.ints .i64 256])], [(3, 3), (9, 9)]⟩
abbrev op10_0 : List (AExit × Lay) := [(.ret, ⟨[(6, .full 6)], [.env 7 (.c (.int .i64)), .reg 6 (.row 5 .u8)], [(6, 6)]⟩), (.exit 0, ⟨[(9, .ptr 9 0 256)], [.env 2 (.c (.int .i64)), .reg 9 (.cells [.ints .i64 256])], [(9, 9)]⟩)]
noncomputable def stepp10_0 : Int × Int × Int × (Nat → Int) × (Nat → Int) → Option ((Int × Int × Int × (Nat → Int) × (Nat → Int)) ⊕ ((Int × List Int) ⊕ (Int × (Nat → Int))))
  | (t1, t2, t10, r3, r9) =>
    if (decide (t10 < 256)) = true then
      if (0 : Int) ≤ t10 ∧ t10 < ((256 : Int) : Int) then
        (Fp17 (r3 t10.toNat)).bind fun y2 =>
          let x3 : Int := (IntKind.i64.wrap ((IntKind.i64.wrap t1) - (IntKind.i64.wrap y2)))
          if (0 : Int) ≤ t10 ∧ t10 < ((256 : Int) : Int) then
            if (0 : Int) ≤ t10 ∧ t10 < ((256 : Int) : Int) then
              if (decide (((upd r9 t10.toNat x3) t10.toNat) < 0)) = false then
                if (0 : Int) ≤ t10 ∧ t10 < ((256 : Int) : Int) then
                  if 0 ≤ (IntKind.u64.wrap t2) then
                    let x4 : Bool := (decide (((upd r9 t10.toNat x3) t10.toNat) ≥ (shlI .i64 1 (IntKind.u64.wrap t2))))
                    if x4 = true then
                      some (.inr (.inl (92, ([] : List Int))))
                    else
                      some (.inl (t1, t2, (IntKind.i64.wrap (t10 + 1)), r3, (upd r9 t10.toNat x3)))
                  else none
                else none
              else
                some (.inr (.inl (92, ([] : List Int))))
            else none
          else none
      else none
    else
      some (.inr (.inr (t2, r9)))

noncomputable def annp10_0 : Ann := .none
noncomputable def Fp10 : (Nat → Int) × Int × Int → Option (List Int × Int)
  | (a0, a1, a2) =>
    if (decide (a2 < 1)) = false then
      if (decide (a2 > 22)) = false then
        if (decide (a1 < 0)) = false then
          if (decide (a1 > 4194304)) = true then
            some ([], 1)
          else
            (Fp20 a0).bind fun y1 =>
              if (!y1) = true then
                some ([], 92)
              else
                (loopO stepp10_0 (a1, a2, 0, a0, (fun _ => 0))).bind fun
                  | (.inl (z6, z7)) =>
                    some (z7, z6)
                  | (.inr (z8, z9)) =>
                    (Fp21 (z9, z8)).bind fun y10 =>
                      some (y10, 0)
        else
          some ([], 1)
      else
        some ([], 1)
    else
      some ([], 1)

noncomputable def annp10 : Ann := (.seq .none (.seq .none (.seq .none (.seq .none (.seq .none (.seq (.seq .none (.seq (.cut (cutEnt lp10_0 op10_0 (loopO stepp10_0))) .none)) .none))))))
abbrev Sp10 : FSh := ⟨[.val (.agg [.ints .i32 256]), .val (.c (.int .i32)), .val (.c (.int .i64))], [.row 5 .u8, .val (.c (.int .i64))], [.tmp 6, .tmp 7]⟩
noncomputable def cp10 : Ctx Go.Proofs.Try.prog := ⟨ptab, ofL Ep17, ptabOk, Ep17_ok, pdep, pord⟩
theorem eqp10_0 : ∀ s : lp10_0.T, exec ptab (ofL Ep17) 59 (Code.at' [1, 1, 1, 1, 1, 0, 1, 0, 0] bodyp10) annp10_0 (fun e st => loopEnd (l := lp10_0) (outs := op10_0) e st) (lp10_0.enc s) = stepp10_0 s := by
  rintro ⟨t1, t2, t10, r3, r9⟩
  kernel_rfl
theorem okp10_0 : LOk Go.Proofs.Try.prog 59 (cutEnt lp10_0 op10_0 (loopO stepp10_0)) (Code.at' [1, 1, 1, 1, 1, 0, 1, 0] bodyp10) := by
  have e : Code.at' [1, 1, 1, 1, 1, 0, 1, 0] bodyp10 = .loop (Code.at' [1, 1, 1, 1, 1, 0, 1, 0, 0] bodyp10) := by kernel_rfl
  rw [e]
  refine loop_ok cp10 59 rfl rfl (annOk_of_cuts ?_) eqp10_0
  intro x hx
  exact absurd hx (by show x ∉ ([] : List (List Nat × LEnt)); simp)

theorem eqp10 : ∀ x : psT Sp10.ps, exec ptab (ofL Ep17) 59 bodyp10 annp10 (fin ptab Sp10) (argSt Sp10 x) = Fp10 x := by
  rintro ⟨a0, a1, a2⟩
  kernel_rfl
theorem callsp10 : CallsAs Go.Proofs.Try.prog cp10 10 Sp10 Fp10 := by
  refine fun_calls (fn := Go.Proofs.Try.f10) (c := bodyp10) (ann := annp10) cp10 (by kernel_rfl) (by kernel_rfl) (by kernel_rfl) (by decide) (annOk_of_cuts ?_) eqp10
  have hc : Ann.cuts annp10 = [([1, 1, 1, 1, 1, 0, 1, 0], (cutEnt lp10_0 op10_0 (loopO stepp10_0)))] := by kernel_rfl
  rw [hc]
  intro x hx
  simp only [List.mem_cons, List.not_mem_nil, or_false] at hx
  rcases hx with rfl
  · have e : Code.at' [1, 1, 1, 1, 1, 0, 1, 0] bodyp10 = Code.at' [1, 1, 1, 1, 1, 0, 1, 0] bodyp10 := by kernel_rfl
    rw [e]; exact okp10_0

theorem entp10 : EntOk Go.Proofs.Try.prog 10 (funEnt Sp10 Fp10) := fun_ok cp10 (fn := Go.Proofs.Try.f10) (c := bodyp10) (by kernel_rfl) (by kernel_rfl) (by kernel_rfl) rfl rfl (by decide) callsp10
noncomputable def Ep10 : List (Nat × Ent) := (10, funEnt Sp10 Fp10) :: Ep17
theorem Ep10_ok : EntsOk Go.Proofs.Try.prog (ofL Ep10) := .cons entp10 Ep17_ok

/-! ### barbican/barbicanref02.Same -/
noncomputable def bodyp11 : Code := (Go.Proofs.Try.f11.body).getD .skip
abbrev lp11_0 : Lay := ⟨[], [.env 0 (.c (.fz (.int .u8))), .env 1 (.c (.fz (.int .u8))), .env 5 (.c (.int .i64))], []⟩
abbrev op11_0 : List (AExit × Lay) := [(.ret, ⟨[], [.env 4 (.c (.bool))], []⟩), (.exit 0, ⟨[], [], []⟩)]
noncomputable def stepp11_0 : (List Int) × (List Int) × Int → Option (((List Int) × (List Int) × Int) ⊕ ((Bool) ⊕ (Unit)))
  | (t0, t1, t5) =>
    if (decide (t5 < (t0.length : Int))) = true then
      if (0 : Int) ≤ t5 ∧ t5 < (t0.length : Int) then
        if (0 : Int) ≤ t5 ∧ t5 < (t1.length : Int) then
          if ((t0.getD t5.toNat 0) != (t1.getD t5.toNat 0)) = true then
            some (.inr (.inl false))
          else
            some (.inl (t0, t1, (IntKind.i64.wrap (t5 + 1))))
        else none
      else none
    else
      some (.inr (.inr ()))

noncomputable def annp11_0 : Ann := .none
noncomputable def Fp11 : List Int × List Int → Option (Bool)
  | (a0, a1) =>
    if ((a0.length : Int) != (a1.length : Int)) = true then
      some false
    else
      (loopO stepp11_0 (a0, a1, 0)).bind fun
        | (.inl z2) =>
          some z2
        | (.inr _) =>
          some true

noncomputable def annp11 : Ann := (.seq .none (.seq .none (.seq (.seq .none (.seq (.cut (cutEnt lp11_0 op11_0 (loopO stepp11_0))) .none)) .none)))
abbrev Sp11 : FSh := ⟨[.ints .u8, .ints .u8], [.val (.c (.bool))], [.tmp 4]⟩
noncomputable def cp11 : Ctx Go.Proofs.Try.prog := ⟨ptab, ofL Ep10, ptabOk, Ep10_ok, pdep, pord⟩
theorem eqp11_0 : ∀ s : lp11_0.T, exec ptab (ofL Ep10) 26 (Code.at' [1, 1, 0, 1, 0, 0] bodyp11) annp11_0 (fun e st => loopEnd (l := lp11_0) (outs := op11_0) e st) (lp11_0.enc s) = stepp11_0 s := by
  rintro ⟨t0, t1, t5⟩
  kernel_rfl
theorem okp11_0 : LOk Go.Proofs.Try.prog 26 (cutEnt lp11_0 op11_0 (loopO stepp11_0)) (Code.at' [1, 1, 0, 1, 0] bodyp11) := by
  have e : Code.at' [1, 1, 0, 1, 0] bodyp11 = .loop (Code.at' [1, 1, 0, 1, 0, 0] bodyp11) := by kernel_rfl
  rw [e]
  refine loop_ok cp11 26 rfl rfl (annOk_of_cuts ?_) eqp11_0
  intro x hx
  exact absurd hx (by show x ∉ ([] : List (List Nat × LEnt)); simp)

theorem eqp11 : ∀ x : psT Sp11.ps, exec ptab (ofL Ep10) 26 bodyp11 annp11 (fin ptab Sp11) (argSt Sp11 x) = Fp11 x := by
  rintro ⟨a0, a1⟩
  kernel_rfl
theorem callsp11 : CallsAs Go.Proofs.Try.prog cp11 11 Sp11 Fp11 := by
  refine fun_calls (fn := Go.Proofs.Try.f11) (c := bodyp11) (ann := annp11) cp11 (by kernel_rfl) (by kernel_rfl) (by kernel_rfl) (by decide) (annOk_of_cuts ?_) eqp11
  have hc : Ann.cuts annp11 = [([1, 1, 0, 1, 0], (cutEnt lp11_0 op11_0 (loopO stepp11_0)))] := by kernel_rfl
  rw [hc]
  intro x hx
  simp only [List.mem_cons, List.not_mem_nil, or_false] at hx
  rcases hx with rfl
  · have e : Code.at' [1, 1, 0, 1, 0] bodyp11 = Code.at' [1, 1, 0, 1, 0] bodyp11 := by kernel_rfl
    rw [e]; exact okp11_0

theorem entp11 : EntOk Go.Proofs.Try.prog 11 (funEnt Sp11 Fp11) := fun_ok cp11 (fn := Go.Proofs.Try.f11) (c := bodyp11) (by kernel_rfl) (by kernel_rfl) (by kernel_rfl) rfl rfl (by decide) callsp11
noncomputable def Ep11 : List (Nat × Ent) := (11, funEnt Sp11 Fp11) :: Ep10
theorem Ep11_ok : EntsOk Go.Proofs.Try.prog (ofL Ep11) := .cons entp11 Ep10_ok

/-! ### barbican/barbicanlaw09.PackPolys -/
noncomputable def bodyp3 : Code := (Go.Proofs.Try.f3.body).getD .skip
noncomputable def Fp3 : (Nat → Int) × Int × Int → Option (Bool)
  | (a0, a1, a2) =>
    (Fp6 ()).bind fun y1 =>
      (Fp7 (a0, a2)).bind fun (y2, y3) =>
        (Fp8 (a0, a1, a2)).bind fun (y4, y5) =>
          (Fp9 (a0, a2)).bind fun (y6, y7) =>
            (Fp10 (a0, a1, a2)).bind fun (y8, y9) =>
              (Fp11 (y2, y6)).bind fun y10 =>
                (Fp11 (y4, y8)).bind fun y11 =>
                  if y1 = true then
                    if y10 = true then
                      if y11 = true then
                        if (y3 == y7) = true then
                          some (y5 == y9)
                        else
                          some false
                      else
                        some false
                    else
                      some false
                  else
                    some false

noncomputable def annp3 : Ann := .none
abbrev Sp3 : FSh := ⟨[.val (.agg [.ints .i32 256]), .val (.c (.int .i32)), .val (.c (.int .i64))], [.val (.c (.bool))], [.tmp 6]⟩
noncomputable def cp3 : Ctx Go.Proofs.Try.prog := ⟨ptab, ofL Ep11, ptabOk, Ep11_ok, pdep, pord⟩
theorem eqp3 : ∀ x : psT Sp3.ps, exec ptab (ofL Ep11) 68 bodyp3 annp3 (fin ptab Sp3) (argSt Sp3 x) = Fp3 x := by
  rintro ⟨a0, a1, a2⟩
  kernel_rfl
theorem callsp3 : CallsAs Go.Proofs.Try.prog cp3 3 Sp3 Fp3 := by
  refine fun_calls (fn := Go.Proofs.Try.f3) (c := bodyp3) (ann := annp3) cp3 (by kernel_rfl) (by kernel_rfl) (by kernel_rfl) (by decide) (annOk_of_cuts ?_) eqp3
  intro x hx
  exact absurd hx (by show x ∉ ([] : List (List Nat × LEnt)); simp)

theorem entp3 : EntOk Go.Proofs.Try.prog 3 (funEnt Sp3 Fp3) := fun_ok cp3 (fn := Go.Proofs.Try.f3) (c := bodyp3) (by kernel_rfl) (by kernel_rfl) (by kernel_rfl) rfl rfl (by decide) callsp3
noncomputable def Ep3 : List (Nat × Ent) := (3, funEnt Sp3 Fp3) :: Ep11
theorem Ep3_ok : EntsOk Go.Proofs.Try.prog (ofL Ep3) := .cons entp3 Ep11_ok

/-! ### barbican/barbicanref08.Mod -/
noncomputable def bodyp22 : Code := (Go.Proofs.Try.f22.body).getD .skip
noncomputable def Fp22 : Int → Option (Int)
  | a0 =>
    if (decide ((a0.tmod 8380417) < 0)) = true then
      let x1 : Int := (IntKind.i32.wrap (IntKind.i64.wrap ((a0.tmod 8380417) + 8380417)))
      some x1
    else
      some (IntKind.i32.wrap (a0.tmod 8380417))

noncomputable def annp22 : Ann := .none
abbrev Sp22 : FSh := ⟨[.val (.c (.int .i64))], [.val (.c (.int .i32))], [.tmp 2]⟩
noncomputable def cp22 : Ctx Go.Proofs.Try.prog := ⟨ptab, ofL Ep3, ptabOk, Ep3_ok, pdep, pord⟩
theorem eqp22 : ∀ x : psT Sp22.ps, exec ptab (ofL Ep3) 11 bodyp22 annp22 (fin ptab Sp22) (argSt Sp22 x) = Fp22 x := by
  intro x
  kernel_rfl
theorem callsp22 : CallsAs Go.Proofs.Try.prog cp22 22 Sp22 Fp22 := by
  refine fun_calls (fn := Go.Proofs.Try.f22) (c := bodyp22) (ann := annp22) cp22 (by kernel_rfl) (by kernel_rfl) (by kernel_rfl) (by decide) (annOk_of_cuts ?_) eqp22
  intro x hx
  exact absurd hx (by show x ∉ ([] : List (List Nat × LEnt)); simp)

theorem entp22 : EntOk Go.Proofs.Try.prog 22 (funEnt Sp22 Fp22) := fun_ok cp22 (fn := Go.Proofs.Try.f22) (c := bodyp22) (by kernel_rfl) (by kernel_rfl) (by kernel_rfl) rfl rfl (by decide) callsp22
noncomputable def Ep22 : List (Nat × Ent) := (22, funEnt Sp22 Fp22) :: Ep3
theorem Ep22_ok : EntsOk Go.Proofs.Try.prog (ofL Ep22) := .cons entp22 Ep3_ok

/-! ### barbican/barbicanref08.Reduce -/
noncomputable def bodyp12 : Code := (Go.Proofs.Try.f12.body).getD .skip
abbrev lp12_0 : Lay := ⟨[(1, .ptr 1 0 256), (2, .ptr 2 0 256), (3, .ptr 3 0 256)], [.env 4 (.c (.int .i64)), .reg 1 (.cells [.ints .i32 256]), .reg 2 (.cells [.ints .i32 256]), .reg 3 (.cells [.ints .i32 256])], [(1, 1), (2, 2), (3, 3)]⟩
abbrev op12_0 : List (AExit × Lay) := [(.exit 0, ⟨[(2, .ptr 2 0 256), (3, .ptr 3 0 256)], [.reg 2 (.cells [.ints .i32 256]), .reg 3 (.cells [.ints .i32 256])], [(2, 2), (3, 3)]⟩)]
noncomputable def stepp12_0 : Int × (Nat → Int) × (Nat → Int) × (Nat → Int) → Option ((Int × (Nat → Int) × (Nat → Int) × (Nat → Int)) ⊕ (((Nat → Int) × (Nat → Int))))
  | (t4, r1, r2, r3) =>
    if (decide (t4 < 256)) = true then
      if (0 : Int) ≤ t4 ∧ t4 < ((256 : Int) : Int) then
        (Fp22 (IntKind.i64.wrap (r1 t4.toNat))).bind fun y1 =>
          if (0 : Int) ≤ t4 ∧ t4 < ((256 : Int) : Int) then
            some (.inl ((IntKind.i64.wrap (t4 + 1)), r1, r2, (upd r3 t4.toNat y1)))
          else none
      else none
    else
      some (.inr (r2, r3))

noncomputable def annp12_0 : Ann := .none
noncomputable def Fp12 : (Nat → Int) → Option ((Nat → Int))
  | a0 =>
    (loopO stepp12_0 (0, a0, (fun _ => 0), (fun _ => 0))).bind fun (z2, z3) =>
      some z3

noncomputable def annp12 : Ann := (.seq .none (.seq .none (.seq (.seq .none (.seq (.cut (cutEnt lp12_0 op12_0 (loopO stepp12_0))) .none)) .none)))
abbrev Sp12 : FSh := ⟨[.val (.agg [.ints .i32 256])], [.val (.agg [.ints .i32 256])], [.cell 2 23]⟩
noncomputable def cp12 : Ctx Go.Proofs.Try.prog := ⟨ptab, ofL Ep22, ptabOk, Ep22_ok, pdep, pord⟩
theorem eqp12_0 : ∀ s : lp12_0.T, exec ptab (ofL Ep22) 17 (Code.at' [1, 1, 0, 1, 0, 0] bodyp12) annp12_0 (fun e st => loopEnd (l := lp12_0) (outs := op12_0) e st) (lp12_0.enc s) = stepp12_0 s := by
  rintro ⟨t4, r1, r2, r3⟩
  kernel_rfl
theorem okp12_0 : LOk Go.Proofs.Try.prog 17 (cutEnt lp12_0 op12_0 (loopO stepp12_0)) (Code.at' [1, 1, 0, 1, 0] bodyp12) := by
  have e : Code.at' [1, 1, 0, 1, 0] bodyp12 = .loop (Code.at' [1, 1, 0, 1, 0, 0] bodyp12) := by kernel_rfl
  rw [e]
  refine loop_ok cp12 17 rfl rfl (annOk_of_cuts ?_) eqp12_0
  intro x hx
  exact absurd hx (by show x ∉ ([] : List (List Nat × LEnt)); simp)

theorem eqp12 : ∀ x : psT Sp12.ps, exec ptab (ofL Ep22) 17 bodyp12 annp12 (fin ptab Sp12) (argSt Sp12 x) = Fp12 x := by
  intro x
  kernel_rfl
theorem callsp12 : CallsAs Go.Proofs.Try.prog cp12 12 Sp12 Fp12 := by
  refine fun_calls (fn := Go.Proofs.Try.f12) (c := bodyp12) (ann := annp12) cp12 (by kernel_rfl) (by kernel_rfl) (by kernel_rfl) (by decide) (annOk_of_cuts ?_) eqp12
  have hc : Ann.cuts annp12 = [([1, 1, 0, 1, 0], (cutEnt lp12_0 op12_0 (loopO stepp12_0)))] := by kernel_rfl
  rw [hc]
  intro x hx
  simp only [List.mem_cons, List.not_mem_nil, or_false] at hx
  rcases hx with rfl
  · have e : Code.at' [1, 1, 0, 1, 0] bodyp12 = Code.at' [1, 1, 0, 1, 0] bodyp12 := by kernel_rfl
    rw [e]; exact okp12_0

theorem entp12 : EntOk Go.Proofs.Try.prog 12 (funEnt Sp12 Fp12) := fun_ok cp12 (fn := Go.Proofs.Try.f12) (c := bodyp12) (by kernel_rfl) (by kernel_rfl) (by kernel_rfl) rfl rfl (by decide) callsp12
noncomputable def Ep12 : List (Nat × Ent) := (12, funEnt Sp12 Fp12) :: Ep22
theorem Ep12_ok : EntsOk Go.Proofs.Try.prog (ofL Ep12) := .cons entp12 Ep22_ok

/-! ### barbican/pack.take -/
noncomputable def bodyp23 : Code := (Go.Proofs.Try.f23.body).getD .skip
abbrev lp23_1 : Lay := ⟨[(4, .ptr 4 0 256), (5, .ptr 5 0 256)], [.env 0 (.c (.fz (.int .u8))), .env 1 (.c (.int .i64)), .env 6 (.c (.int .u64)), .env 7 (.c (.int .i64)), .env 8 (.c (.int .i64)), .env 9 (.c (.int .i64)), .env 10 (.c (.int .i64)), .reg 4 (.cells [.ints .u32 256]), .reg 5 (.cells [.ints .u32 256])], [(4, 4), (5, 5)]⟩
abbrev op23_1 : List (AExit × Lay) := [(.exit 2, ⟨[(4, .ptr 4 0 256), (5, .ptr 5 0 256)], [.env 0 (.c (.fz (.int .u8))), .env 1 (.c (.int .i64)), .env 6 (.c (.int .u64)), .env 7 (.c (.int .i64)), .env 8 (.c (.int .i64)), .env 9 (.c (.int .i64)), .env 10 (.c (.int .i64)), .reg 4 (.cells [.ints .u32 256]), .reg 5 (.cells [.ints .u32 256])], [(4, 4), (5, 5)]⟩)]
noncomputable def stepp23_1 : (List Int) × Int × Int × Int × Int × Int × Int × (Nat → Int) × (Nat → Int) → Option (((List Int) × Int × Int × Int × Int × Int × Int × (Nat → Int) × (Nat → Int)) ⊕ (((List Int) × Int × Int × Int × Int × Int × Int × (Nat → Int) × (Nat → Int))))
  | (t0, t1, t6, t7, t8, t9, t10, r4, r5) =>
    if (decide (t7 < t1)) = true then
      if (0 : Int) ≤ t8 ∧ t8 < (t0.length : Int) then
        if 0 ≤ t7 then
          let x1 : Int := (bitsOr .u64 t6 (shlI .u64 (IntKind.u64.wrap (t0.getD t8.toNat 0)) t7))
          some (.inl (t0, t1, x1, (IntKind.i64.wrap (t7 + 8)), (IntKind.i64.wrap (t8 + 1)), t9, t10, r4, r5))
        else none
      else none
    else
      some (.inr (t0, t1, t6, t7, t8, t9, t10, r4, r5))

noncomputable def annp23_1 : Ann := .none
abbrev lp23_0 : Lay := ⟨[(4, .ptr 4 0 256), (5, .ptr 5 0 256)], [.env 0 (.c (.fz (.int .u8))), .env 1 (.c (.int .i64)), .env 6 (.c (.int .u64)), .env 7 (.c (.int .i64)), .env 8 (.c (.int .i64)), .env 10 (.c (.int .i64)), .reg 4 (.cells [.ints .u32 256]), .reg 5 (.cells [.ints .u32 256])], [(4, 4), (5, 5)]⟩
abbrev op23_0 : List (AExit × Lay) := [(.exit 0, ⟨[(4, .ptr 4 0 256), (5, .ptr 5 0 256)], [.reg 4 (.cells [.ints .u32 256]), .reg 5 (.cells [.ints .u32 256])], [(4, 4), (5, 5)]⟩)]
noncomputable def stepp23_0 : (List Int) × Int × Int × Int × Int × Int × (Nat → Int) × (Nat → Int) → Option (((List Int) × Int × Int × Int × Int × Int × (Nat → Int) × (Nat → Int)) ⊕ (((Nat → Int) × (Nat → Int))))
  | (t0, t1, t6, t7, t8, t10, r4, r5) =>
    if (decide (t10 < 256)) = true then
      (loopO stepp23_1 (t0, t1, t6, t7, t8, t10, t10, r4, r5)).bind fun (z2, z3, z4, z5, z6, z7, z8, z9, z10) =>
        if 0 ≤ z3 then
          let x11 : Int := (IntKind.u32.wrap (bitsAnd .u64 z4 (IntKind.u64.wrap ((shlI .u64 1 z3) - 1))))
          if (0 : Int) ≤ z7 ∧ z7 < ((256 : Int) : Int) then
            if 0 ≤ z3 then
              some (.inl (z2, z3, (shrI .u64 z4 z3), (IntKind.i64.wrap (z5 - z3)), z6, (IntKind.i64.wrap (z8 + 1)), z9, (upd z10 z7.toNat x11)))
            else none
          else none
        else none
    else
      some (.inr (r4, r5))

noncomputable def annp23_0 : Ann := (.seq .none (.seq .none (.seq (.seq (.seq .none (.seq (.seq (.cut (cutEnt lp23_1 op23_1 (loopO stepp23_1))) .none) .none)) .none) .none)))
noncomputable def Fp23 : List Int × Int → Option ((Nat → Int))
  | (a0, a1) =>
    (loopO stepp23_0 (a0, a1, 0, 0, 0, 0, (fun _ => 0), (fun _ => 0))).bind fun (z12, z13) =>
      some z13

noncomputable def annp23 : Ann := (.seq .none (.seq .none (.seq .none (.seq (.seq .none (.seq (.cut (cutEnt lp23_0 op23_0 (loopO stepp23_0))) .none)) .none))))
abbrev Sp23 : FSh := ⟨[.ints .u8, .val (.c (.int .i64))], [.val (.agg [.ints .u32 256])], [.cell 4 41]⟩
noncomputable def cp23 : Ctx Go.Proofs.Try.prog := ⟨ptab, ofL Ep12, ptabOk, Ep12_ok, pdep, pord⟩
theorem eqp23_1 : ∀ s : lp23_1.T, exec ptab (ofL Ep12) 45 (Code.at' [1, 1, 1, 0, 1, 0, 0, 1, 1, 0, 0, 1, 0, 0, 0] bodyp23) annp23_1 (fun e st => loopEnd (l := lp23_1) (outs := op23_1) e st) (lp23_1.enc s) = stepp23_1 s := by
  rintro ⟨t0, t1, t6, t7, t8, t9, t10, r4, r5⟩
  kernel_rfl
theorem okp23_1 : LOk Go.Proofs.Try.prog 45 (cutEnt lp23_1 op23_1 (loopO stepp23_1)) (Code.at' [1, 1, 1, 0, 1, 0, 0, 1, 1, 0, 0, 1, 0, 0] bodyp23) := by
  have e : Code.at' [1, 1, 1, 0, 1, 0, 0, 1, 1, 0, 0, 1, 0, 0] bodyp23 = .loop (Code.at' [1, 1, 1, 0, 1, 0, 0, 1, 1, 0, 0, 1, 0, 0, 0] bodyp23) := by kernel_rfl
  rw [e]
  refine loop_ok cp23 45 rfl rfl (annOk_of_cuts ?_) eqp23_1
  intro x hx
  exact absurd hx (by show x ∉ ([] : List (List Nat × LEnt)); simp)

theorem eqp23_0 : ∀ s : lp23_0.T, exec ptab (ofL Ep12) 45 (Code.at' [1, 1, 1, 0, 1, 0, 0] bodyp23) annp23_0 (fun e st => loopEnd (l := lp23_0) (outs := op23_0) e st) (lp23_0.enc s) = stepp23_0 s := by
  rintro ⟨t0, t1, t6, t7, t8, t10, r4, r5⟩
  kernel_rfl
theorem okp23_0 : LOk Go.Proofs.Try.prog 45 (cutEnt lp23_0 op23_0 (loopO stepp23_0)) (Code.at' [1, 1, 1, 0, 1, 0] bodyp23) := by
  have e : Code.at' [1, 1, 1, 0, 1, 0] bodyp23 = .loop (Code.at' [1, 1, 1, 0, 1, 0, 0] bodyp23) := by kernel_rfl
  rw [e]
  refine loop_ok cp23 45 rfl rfl (annOk_of_cuts ?_) eqp23_0
  have hc : Ann.cuts annp23_0 = [([1, 1, 0, 0, 1, 0, 0], (cutEnt lp23_1 op23_1 (loopO stepp23_1)))] := by kernel_rfl
  rw [hc]
  intro x hx
  simp only [List.mem_cons, List.not_mem_nil, or_false] at hx
  rcases hx with rfl
  · have e : Code.at' [1, 1, 0, 0, 1, 0, 0] (Code.at' [1, 1, 1, 0, 1, 0, 0] bodyp23) = Code.at' [1, 1, 1, 0, 1, 0, 0, 1, 1, 0, 0, 1, 0, 0] bodyp23 := by kernel_rfl
    rw [e]; exact okp23_1

theorem eqp23 : ∀ x : psT Sp23.ps, exec ptab (ofL Ep12) 45 bodyp23 annp23 (fin ptab Sp23) (argSt Sp23 x) = Fp23 x := by
  rintro ⟨a0, a1⟩
  kernel_rfl
theorem callsp23 : CallsAs Go.Proofs.Try.prog cp23 23 Sp23 Fp23 := by
  refine fun_calls (fn := Go.Proofs.Try.f23) (c := bodyp23) (ann := annp23) cp23 (by kernel_rfl) (by kernel_rfl) (by kernel_rfl) (by decide) (annOk_of_cuts ?_) eqp23
  have hc : Ann.cuts annp23 = [([1, 1, 1, 0, 1, 0], (cutEnt lp23_0 op23_0 (loopO stepp23_0)))] := by kernel_rfl
  rw [hc]
  intro x hx
  simp only [List.mem_cons, List.not_mem_nil, or_false] at hx
  rcases hx with rfl
  · have e : Code.at' [1, 1, 1, 0, 1, 0] bodyp23 = Code.at' [1, 1, 1, 0, 1, 0] bodyp23 := by kernel_rfl
    rw [e]; exact okp23_0

theorem entp23 : EntOk Go.Proofs.Try.prog 23 (funEnt Sp23 Fp23) := fun_ok cp23 (fn := Go.Proofs.Try.f23) (c := bodyp23) (by kernel_rfl) (by kernel_rfl) (by kernel_rfl) rfl rfl (by decide) callsp23
noncomputable def Ep23 : List (Nat × Ent) := (23, funEnt Sp23 Fp23) :: Ep12
theorem Ep23_ok : EntsOk Go.Proofs.Try.prog (ofL Ep23) := .cons entp23 Ep12_ok

/-! ### barbican/pack.FromUp -/
noncomputable def bodyp13 : Code := (Go.Proofs.Try.f13.body).getD .skip
abbrev lp13_0 : Lay := ⟨[(4, .ptr 4 0 256), (6, .ptr 6 0 256)], [.env 26 (.agg [.ints .u32 256]), .env 27 (.c (.int .i64)), .reg 4 (.cells [.ints .i32 256]), .reg 6 (.cells [.ints .i32 256])], [(4, 4), (6, 6)]⟩
abbrev op13_0 : List (AExit × Lay) := [(.ret, ⟨[(4, .ptr 4 0 256)], [.env 5 (.c (.int .i64)), .reg 4 (.cells [.ints .i32 256])], [(4, 4)]⟩), (.exit 1, ⟨[(4, .ptr 4 0 256), (6, .ptr 6 0 256)], [.reg 4 (.cells [.ints .i32 256]), .reg 6 (.cells [.ints .i32 256])], [(4, 4), (6, 6)]⟩)]
noncomputable def stepp13_0 : (Nat → Int) × Int × (Nat → Int) × (Nat → Int) → Option (((Nat → Int) × Int × (Nat → Int) × (Nat → Int)) ⊕ ((Int × (Nat → Int)) ⊕ ((Nat → Int) × (Nat → Int))))
  | (t26, t27, r4, r6) =>
    if (decide (t27 < 256)) = true then
      if (0 : Int) ≤ t27 ∧ t27 < (256 : Int) then
        if (decide ((t26 t27.toNat) ≥ 8380417)) = true then
          some (.inr (.inl (92, (fun _ => 0))))
        else
          if (0 : Int) ≤ t27 ∧ t27 < ((256 : Int) : Int) then
            some (.inl (t26, (IntKind.i64.wrap (t27 + 1)), r4, (upd r6 t27.toNat (IntKind.i32.wrap (t26 t27.toNat)))))
          else none
      else none
    else
      some (.inr (.inr (r4, r6)))

noncomputable def annp13_0 : Ann := .none
noncomputable def Fp13 : List Int × Int → Option ((Nat → Int) × Int)
  | (a0, a1) =>
    if (decide (a1 < 1)) = false then
      if (decide (a1 > 23)) = true then
        some ((fun _ => 0), 1)
      else
        if ((a0.length : Int) != (IntKind.i64.wrap (32 * a1))) = true then
          some ((fun _ => 0), 91)
        else
          (Fp23 (a0, a1)).bind fun y1 =>
            (loopO stepp13_0 (y1, 0, (fun _ => 0), (fun _ => 0))).bind fun
              | (.inl (z3, z4)) =>
                some (z4, z3)
              | (.inr (z5, z6)) =>
                some (z6, 0)
    else
      some ((fun _ => 0), 1)

noncomputable def annp13 : Ann := (.seq .none (.seq .none (.seq .none (.seq (.seq .none (.seq (.cut (cutEnt lp13_0 op13_0 (loopO stepp13_0))) .none)) .none))))
abbrev Sp13 : FSh := ⟨[.ints .u8, .val (.c (.int .i64))], [.val (.agg [.ints .i32 256]), .val (.c (.int .i64))], [.cell 4 23, .tmp 5]⟩
noncomputable def cp13 : Ctx Go.Proofs.Try.prog := ⟨ptab, ofL Ep23, ptabOk, Ep23_ok, pdep, pord⟩
theorem eqp13_0 : ∀ s : lp13_0.T, exec ptab (ofL Ep23) 40 (Code.at' [1, 1, 1, 0, 1, 0, 0] bodyp13) annp13_0 (fun e st => loopEnd (l := lp13_0) (outs := op13_0) e st) (lp13_0.enc s) = stepp13_0 s := by
  rintro ⟨t26, t27, r4, r6⟩
  kernel_rfl
theorem okp13_0 : LOk Go.Proofs.Try.prog 40 (cutEnt lp13_0 op13_0 (loopO stepp13_0)) (Code.at' [1, 1, 1, 0, 1, 0] bodyp13) := by
  have e : Code.at' [1, 1, 1, 0, 1, 0] bodyp13 = .loop (Code.at' [1, 1, 1, 0, 1, 0, 0] bodyp13) := by kernel_rfl
  rw [e]
  refine loop_ok cp13 40 rfl rfl (annOk_of_cuts ?_) eqp13_0
  intro x hx
  exact absurd hx (by show x ∉ ([] : List (List Nat × LEnt)); simp)

theorem eqp13 : ∀ x : psT Sp13.ps, exec ptab (ofL Ep23) 40 bodyp13 annp13 (fin ptab Sp13) (argSt Sp13 x) = Fp13 x := by
  rintro ⟨a0, a1⟩
  kernel_rfl
theorem callsp13 : CallsAs Go.Proofs.Try.prog cp13 13 Sp13 Fp13 := by
  refine fun_calls (fn := Go.Proofs.Try.f13) (c := bodyp13) (ann := annp13) cp13 (by kernel_rfl) (by kernel_rfl) (by kernel_rfl) (by decide) (annOk_of_cuts ?_) eqp13
  have hc : Ann.cuts annp13 = [([1, 1, 1, 0, 1, 0], (cutEnt lp13_0 op13_0 (loopO stepp13_0)))] := by kernel_rfl
  rw [hc]
  intro x hx
  simp only [List.mem_cons, List.not_mem_nil, or_false] at hx
  rcases hx with rfl
  · have e : Code.at' [1, 1, 1, 0, 1, 0] bodyp13 = Code.at' [1, 1, 1, 0, 1, 0] bodyp13 := by kernel_rfl
    rw [e]; exact okp13_0

theorem entp13 : EntOk Go.Proofs.Try.prog 13 (funEnt Sp13 Fp13) := fun_ok cp13 (fn := Go.Proofs.Try.f13) (c := bodyp13) (by kernel_rfl) (by kernel_rfl) (by kernel_rfl) rfl rfl (by decide) callsp13
noncomputable def Ep13 : List (Nat × Ent) := (13, funEnt Sp13 Fp13) :: Ep23
theorem Ep13_ok : EntsOk Go.Proofs.Try.prog (ofL Ep13) := .cons entp13 Ep23_ok

/-! ### barbican/ring.mod -/
noncomputable def bodyp26 : Code := (Go.Proofs.Try.f26.body).getD .skip
noncomputable def Fp26 : Int → Option (Int)
  | a0 =>
    if (decide ((a0.tmod 8380417) < 0)) = true then
      let x1 : Int := (IntKind.i32.wrap (IntKind.i64.wrap ((a0.tmod 8380417) + 8380417)))
      some x1
    else
      some (IntKind.i32.wrap (a0.tmod 8380417))

noncomputable def annp26 : Ann := .none
abbrev Sp26 : FSh := ⟨[.val (.c (.int .i64))], [.val (.c (.int .i32))], [.tmp 2]⟩
noncomputable def cp26 : Ctx Go.Proofs.Try.prog := ⟨ptab, ofL Ep13, ptabOk, Ep13_ok, pdep, pord⟩
theorem eqp26 : ∀ x : psT Sp26.ps, exec ptab (ofL Ep13) 11 bodyp26 annp26 (fin ptab Sp26) (argSt Sp26 x) = Fp26 x := by
  intro x
  kernel_rfl
theorem callsp26 : CallsAs Go.Proofs.Try.prog cp26 26 Sp26 Fp26 := by
  refine fun_calls (fn := Go.Proofs.Try.f26) (c := bodyp26) (ann := annp26) cp26 (by kernel_rfl) (by kernel_rfl) (by kernel_rfl) (by decide) (annOk_of_cuts ?_) eqp26
  intro x hx
  exact absurd hx (by show x ∉ ([] : List (List Nat × LEnt)); simp)

theorem entp26 : EntOk Go.Proofs.Try.prog 26 (funEnt Sp26 Fp26) := fun_ok cp26 (fn := Go.Proofs.Try.f26) (c := bodyp26) (by kernel_rfl) (by kernel_rfl) (by kernel_rfl) rfl rfl (by decide) callsp26
noncomputable def Ep26 : List (Nat × Ent) := (26, funEnt Sp26 Fp26) :: Ep13
theorem Ep26_ok : EntsOk Go.Proofs.Try.prog (ofL Ep26) := .cons entp26 Ep13_ok

/-! ### barbican/ring.Reduce -/
noncomputable def bodyp24 : Code := (Go.Proofs.Try.f24.body).getD .skip
abbrev lp24_0 : Lay := ⟨[(1, .ptr 1 0 256), (2, .ptr 2 0 256)], [.env 5 (.agg [.ints .i32 256]), .env 6 (.c (.int .i64)), .reg 1 (.cells [.ints .i32 256]), .reg 2 (.cells [.ints .i32 256])], [(1, 1), (2, 2)]⟩
abbrev op24_0 : List (AExit × Lay) := [(.exit 0, ⟨[(1, .ptr 1 0 256), (2, .ptr 2 0 256)], [.reg 1 (.cells [.ints .i32 256]), .reg 2 (.cells [.ints .i32 256])], [(1, 1), (2, 2)]⟩)]
noncomputable def stepp24_0 : (Nat → Int) × Int × (Nat → Int) × (Nat → Int) → Option (((Nat → Int) × Int × (Nat → Int) × (Nat → Int)) ⊕ (((Nat → Int) × (Nat → Int))))
  | (t5, t6, r1, r2) =>
    if (decide (t6 < 256)) = true then
      if (0 : Int) ≤ t6 ∧ t6 < (256 : Int) then
        (Fp26 (IntKind.i64.wrap (t5 t6.toNat))).bind fun y1 =>
          if (0 : Int) ≤ t6 ∧ t6 < ((256 : Int) : Int) then
            some (.inl (t5, (IntKind.i64.wrap (t6 + 1)), (upd r1 t6.toNat y1), r2))
          else none
      else none
    else
      some (.inr (r1, r2))

noncomputable def annp24_0 : Ann := .none
noncomputable def Fp24 : (Nat → Int) → Option ((Nat → Int))
  | a0 =>
    (loopO stepp24_0 (a0, 0, a0, (fun _ => 0))).bind fun (z2, z3) =>
      some z2

noncomputable def annp24 : Ann := (.seq .none (.seq (.seq .none (.seq (.cut (cutEnt lp24_0 op24_0 (loopO stepp24_0))) .none)) .none))
abbrev Sp24 : FSh := ⟨[.val (.agg [.ints .i32 256])], [.val (.agg [.ints .i32 256])], [.cell 2 23]⟩
noncomputable def cp24 : Ctx Go.Proofs.Try.prog := ⟨ptab, ofL Ep26, ptabOk, Ep26_ok, pdep, pord⟩
theorem eqp24_0 : ∀ s : lp24_0.T, exec ptab (ofL Ep26) 17 (Code.at' [1, 0, 1, 0, 0] bodyp24) annp24_0 (fun e st => loopEnd (l := lp24_0) (outs := op24_0) e st) (lp24_0.enc s) = stepp24_0 s := by
  rintro ⟨t5, t6, r1, r2⟩
  kernel_rfl
theorem okp24_0 : LOk Go.Proofs.Try.prog 17 (cutEnt lp24_0 op24_0 (loopO stepp24_0)) (Code.at' [1, 0, 1, 0] bodyp24) := by
  have e : Code.at' [1, 0, 1, 0] bodyp24 = .loop (Code.at' [1, 0, 1, 0, 0] bodyp24) := by kernel_rfl
  rw [e]
  refine loop_ok cp24 17 rfl rfl (annOk_of_cuts ?_) eqp24_0
  intro x hx
  exact absurd hx (by show x ∉ ([] : List (List Nat × LEnt)); simp)

theorem eqp24 : ∀ x : psT Sp24.ps, exec ptab (ofL Ep26) 17 bodyp24 annp24 (fin ptab Sp24) (argSt Sp24 x) = Fp24 x := by
  intro x
  kernel_rfl
theorem callsp24 : CallsAs Go.Proofs.Try.prog cp24 24 Sp24 Fp24 := by
  refine fun_calls (fn := Go.Proofs.Try.f24) (c := bodyp24) (ann := annp24) cp24 (by kernel_rfl) (by kernel_rfl) (by kernel_rfl) (by decide) (annOk_of_cuts ?_) eqp24
  have hc : Ann.cuts annp24 = [([1, 0, 1, 0], (cutEnt lp24_0 op24_0 (loopO stepp24_0)))] := by kernel_rfl
  rw [hc]
  intro x hx
  simp only [List.mem_cons, List.not_mem_nil, or_false] at hx
  rcases hx with rfl
  · have e : Code.at' [1, 0, 1, 0] bodyp24 = Code.at' [1, 0, 1, 0] bodyp24 := by kernel_rfl
    rw [e]; exact okp24_0

theorem entp24 : EntOk Go.Proofs.Try.prog 24 (funEnt Sp24 Fp24) := fun_ok cp24 (fn := Go.Proofs.Try.f24) (c := bodyp24) (by kernel_rfl) (by kernel_rfl) (by kernel_rfl) rfl rfl (by decide) callsp24
noncomputable def Ep24 : List (Nat × Ent) := (24, funEnt Sp24 Fp24) :: Ep26
theorem Ep24_ok : EntsOk Go.Proofs.Try.prog (ofL Ep24) := .cons entp24 Ep26_ok

/-! ### barbican/pack.FromDown -/
noncomputable def bodyp14 : Code := (Go.Proofs.Try.f14.body).getD .skip
abbrev lp14_0 : Lay := ⟨[(6, .ptr 6 0 256), (8, .ptr 8 0 256)], [.env 1 (.c (.int .i32)), .env 26 (.agg [.ints .u32 256]), .env 27 (.c (.int .i64)), .reg 6 (.cells [.ints .i32 256]), .reg 8 (.cells [.ints .i32 256])], [(6, 6), (8, 8)]⟩
abbrev op14_0 : List (AExit × Lay) := [(.ret, ⟨[(6, .ptr 6 0 256)], [.env 7 (.c (.int .i64)), .reg 6 (.cells [.ints .i32 256])], [(6, 6)]⟩), (.exit 1, ⟨[(6, .ptr 6 0 256), (8, .ptr 8 0 256)], [.reg 6 (.cells [.ints .i32 256]), .reg 8 (.cells [.ints .i32 256])], [(6, 6), (8, 8)]⟩)]
noncomputable def stepp14_0 : Int × (Nat → Int) × Int × (Nat → Int) × (Nat → Int) → Option ((Int × (Nat → Int) × Int × (Nat → Int) × (Nat → Int)) ⊕ ((Int × (Nat → Int)) ⊕ ((Nat → Int) × (Nat → Int))))
  | (t1, t26, t27, r6, r8) =>
    if (decide (t27 < 256)) = true then
      if (0 : Int) ≤ t27 ∧ t27 < (256 : Int) then
        let x3 : Bool := (decide ((IntKind.i32.wrap (t1 - (IntKind.i32.wrap (t26 t27.toNat)))) < (-4190208)))
        if x3 = false then
          let x4 : Bool := (decide ((IntKind.i32.wrap (t1 - (IntKind.i32.wrap (t26 t27.toNat)))) > 4190208))
          if x4 = true then
            some (.inr (.inl (92, (fun _ => 0))))
          else
            if (0 : Int) ≤ t27 ∧ t27 < ((256 : Int) : Int) then
              let f5 : Nat → Int := (upd r8 t27.toNat (IntKind.i32.wrap (t1 - (IntKind.i32.wrap (t26 t27.toNat)))))
              some (.inl (t1, t26, (IntKind.i64.wrap (t27 + 1)), r6, f5))
            else none
        else
          some (.inr (.inl (92, (fun _ => 0))))
      else none
    else
      some (.inr (.inr (r6, r8)))

noncomputable def annp14_0 : Ann := .none
noncomputable def Fp14 : List Int × Int × Int → Option ((Nat → Int) × Int)
  | (a0, a1, a2) =>
    (Fp19 (a1, a2)).bind fun y1 =>
      if y1 = true then
        some ((fun _ => 0), 1)
      else
        if ((a0.length : Int) != (IntKind.i64.wrap (32 * a2))) = true then
          some ((fun _ => 0), 91)
        else
          (Fp23 (a0, a2)).bind fun y2 =>
            (loopO stepp14_0 (a1, y2, 0, (fun _ => 0), (fun _ => 0))).bind fun
              | (.inl (z7, z8)) =>
                some (z8, z7)
              | (.inr (z9, z10)) =>
                (Fp24 z10).bind fun y11 =>
                  some (y11, 0)

noncomputable def annp14 : Ann := (.seq .none (.seq .none (.seq .none (.seq (.seq .none (.seq (.cut (cutEnt lp14_0 op14_0 (loopO stepp14_0))) .none)) .none))))
abbrev Sp14 : FSh := ⟨[.ints .u8, .val (.c (.int .i32)), .val (.c (.int .i64))], [.val (.agg [.ints .i32 256]), .val (.c (.int .i64))], [.cell 6 23, .tmp 7]⟩
noncomputable def cp14 : Ctx Go.Proofs.Try.prog := ⟨ptab, ofL Ep24, ptabOk, Ep24_ok, pdep, pord⟩
theorem eqp14_0 : ∀ s : lp14_0.T, exec ptab (ofL Ep24) 48 (Code.at' [1, 1, 1, 0, 1, 0, 0] bodyp14) annp14_0 (fun e st => loopEnd (l := lp14_0) (outs := op14_0) e st) (lp14_0.enc s) = stepp14_0 s := by
  rintro ⟨t1, t26, t27, r6, r8⟩
  kernel_rfl
theorem okp14_0 : LOk Go.Proofs.Try.prog 48 (cutEnt lp14_0 op14_0 (loopO stepp14_0)) (Code.at' [1, 1, 1, 0, 1, 0] bodyp14) := by
  have e : Code.at' [1, 1, 1, 0, 1, 0] bodyp14 = .loop (Code.at' [1, 1, 1, 0, 1, 0, 0] bodyp14) := by kernel_rfl
  rw [e]
  refine loop_ok cp14 48 rfl rfl (annOk_of_cuts ?_) eqp14_0
  intro x hx
  exact absurd hx (by show x ∉ ([] : List (List Nat × LEnt)); simp)

theorem eqp14 : ∀ x : psT Sp14.ps, exec ptab (ofL Ep24) 48 bodyp14 annp14 (fin ptab Sp14) (argSt Sp14 x) = Fp14 x := by
  rintro ⟨a0, a1, a2⟩
  kernel_rfl
theorem callsp14 : CallsAs Go.Proofs.Try.prog cp14 14 Sp14 Fp14 := by
  refine fun_calls (fn := Go.Proofs.Try.f14) (c := bodyp14) (ann := annp14) cp14 (by kernel_rfl) (by kernel_rfl) (by kernel_rfl) (by decide) (annOk_of_cuts ?_) eqp14
  have hc : Ann.cuts annp14 = [([1, 1, 1, 0, 1, 0], (cutEnt lp14_0 op14_0 (loopO stepp14_0)))] := by kernel_rfl
  rw [hc]
  intro x hx
  simp only [List.mem_cons, List.not_mem_nil, or_false] at hx
  rcases hx with rfl
  · have e : Code.at' [1, 1, 1, 0, 1, 0] bodyp14 = Code.at' [1, 1, 1, 0, 1, 0] bodyp14 := by kernel_rfl
    rw [e]; exact okp14_0

theorem entp14 : EntOk Go.Proofs.Try.prog 14 (funEnt Sp14 Fp14) := fun_ok cp14 (fn := Go.Proofs.Try.f14) (c := bodyp14) (by kernel_rfl) (by kernel_rfl) (by kernel_rfl) rfl rfl (by decide) callsp14
noncomputable def Ep14 : List (Nat × Ent) := (14, funEnt Sp14 Fp14) :: Ep24
theorem Ep14_ok : EntsOk Go.Proofs.Try.prog (ofL Ep14) := .cons entp14 Ep24_ok

/-! ### barbican/barbicanlaw09.PackBack -/
noncomputable def bodyp4 : Code := (Go.Proofs.Try.f4.body).getD .skip
noncomputable def Fp4 : List Int × (Nat → Int) × Int → Option (Bool)
  | (a0, a1, a2) =>
    (Fp6 ()).bind fun y1 =>
      (Fp12 a1).bind fun y2 =>
        (Fp13 (a0, a2)).bind fun (y3, y4) =>
          (Fp14 (a0, 524288, a2)).bind fun (y5, y6) =>
            if (y4 == 0) = true then
              (Fp7 (y3, a2)).bind fun (y7, y8) =>
                if (y8 != 0) = false then
                  (Fp11 (y7, a0)).bind fun y9 =>
                    if (!y9) = true then
                      some false
                    else
                      if (y6 == 0) = true then
                        (Fp8 (y5, 524288, a2)).bind fun (y10, y11) =>
                          if (y11 != 0) = false then
                            (Fp11 (y10, a0)).bind fun y12 =>
                              if (!y12) = true then
                                some false
                              else
                                (Fp7 (y2, 23)).bind fun (y13, y14) =>
                                  (Fp13 (y13, 23)).bind fun (y15, y16) =>
                                    (Fp8 (y2, 524288, 20)).bind fun (y17, y18) =>
                                      if (y18 == 0) = true then
                                        (Fp14 (y17, 524288, 20)).bind fun (y19, y20) =>
                                          if (y20 != 0) = false then
                                            if (!(arrEq 256 y19 y2)) = false then
                                              if ((y17.length : Int) != 640) = true then
                                                some false
                                              else
                                                if y1 = true then
                                                  if (y14 == 0) = true then
                                                    if (y16 == 0) = true then
                                                      if (arrEq 256 y15 y2) = true then
                                                        some ((y13.length : Int) == 736)
                                                      else
                                                        some false
                                                    else
                                                      some false
                                                  else
                                                    some false
                                                else
                                                  some false
                                            else
                                              some false
                                          else
                                            some false
                                      else
                                        if y1 = true then
                                          if (y14 == 0) = true then
                                            if (y16 == 0) = true then
                                              if (arrEq 256 y15 y2) = true then
                                                some ((y13.length : Int) == 736)
                                              else
                                                some false
                                            else
                                              some false
                                          else
                                            some false
                                        else
                                          some false
                          else
                            some false
                      else
                        (Fp7 (y2, 23)).bind fun (y21, y22) =>
                          (Fp13 (y21, 23)).bind fun (y23, y24) =>
                            (Fp8 (y2, 524288, 20)).bind fun (y25, y26) =>
                              if (y26 == 0) = true then
                                (Fp14 (y25, 524288, 20)).bind fun (y27, y28) =>
                                  if (y28 != 0) = false then
                                    if (!(arrEq 256 y27 y2)) = false then
                                      if ((y25.length : Int) != 640) = true then
                                        some false
                                      else
                                        if y1 = true then
                                          if (y22 == 0) = true then
                                            if (y24 == 0) = true then
                                              if (arrEq 256 y23 y2) = true then
                                                some ((y21.length : Int) == 736)
                                              else
                                                some false
                                            else
                                              some false
                                          else
                                            some false
                                        else
                                          some false
                                    else
                                      some false
                                  else
                                    some false
                              else
                                if y1 = true then
                                  if (y22 == 0) = true then
                                    if (y24 == 0) = true then
                                      if (arrEq 256 y23 y2) = true then
                                        some ((y21.length : Int) == 736)
                                      else
                                        some false
                                    else
                                      some false
                                  else
                                    some false
                                else
                                  some false
                else
                  some false
            else
              if (y6 == 0) = true then
                (Fp8 (y5, 524288, a2)).bind fun (y29, y30) =>
                  if (y30 != 0) = false then
                    (Fp11 (y29, a0)).bind fun y31 =>
                      if (!y31) = true then
                        some false
                      else
                        (Fp7 (y2, 23)).bind fun (y32, y33) =>
                          (Fp13 (y32, 23)).bind fun (y34, y35) =>
                            (Fp8 (y2, 524288, 20)).bind fun (y36, y37) =>
                              if (y37 == 0) = true then
                                (Fp14 (y36, 524288, 20)).bind fun (y38, y39) =>
                                  if (y39 != 0) = false then
                                    if (!(arrEq 256 y38 y2)) = false then
                                      if ((y36.length : Int) != 640) = true then
                                        some false
                                      else
                                        if y1 = true then
                                          if (y33 == 0) = true then
                                            if (y35 == 0) = true then
                                              if (arrEq 256 y34 y2) = true then
                                                some ((y32.length : Int) == 736)
                                              else
                                                some false
                                            else
                                              some false
                                          else
                                            some false
                                        else
                                          some false
                                    else
                                      some false
                                  else
                                    some false
                              else
                                if y1 = true then
                                  if (y33 == 0) = true then
                                    if (y35 == 0) = true then
                                      if (arrEq 256 y34 y2) = true then
                                        some ((y32.length : Int) == 736)
                                      else
                                        some false
                                    else
                                      some false
                                  else
                                    some false
                                else
                                  some false
                  else
                    some false
              else
                (Fp7 (y2, 23)).bind fun (y40, y41) =>
                  (Fp13 (y40, 23)).bind fun (y42, y43) =>
                    (Fp8 (y2, 524288, 20)).bind fun (y44, y45) =>
                      if (y45 == 0) = true then
                        (Fp14 (y44, 524288, 20)).bind fun (y46, y47) =>
                          if (y47 != 0) = false then
                            if (!(arrEq 256 y46 y2)) = false then
                              if ((y44.length : Int) != 640) = true then
                                some false
                              else
                                if y1 = true then
                                  if (y41 == 0) = true then
                                    if (y43 == 0) = true then
                                      if (arrEq 256 y42 y2) = true then
                                        some ((y40.length : Int) == 736)
                                      else
                                        some false
                                    else
                                      some false
                                  else
                                    some false
                                else
                                  some false
                            else
                              some false
                          else
                            some false
                      else
                        if y1 = true then
                          if (y41 == 0) = true then
                            if (y43 == 0) = true then
                              if (arrEq 256 y42 y2) = true then
                                some ((y40.length : Int) == 736)
                              else
                                some false
                            else
                              some false
                          else
                            some false
                        else
                          some false

noncomputable def annp4 : Ann := .none
abbrev Sp4 : FSh := ⟨[.ints .u8, .val (.agg [.ints .i32 256]), .val (.c (.int .i64))], [.val (.c (.bool))], [.tmp 6]⟩
noncomputable def cp4 : Ctx Go.Proofs.Try.prog := ⟨ptab, ofL Ep14, ptabOk, Ep14_ok, pdep, pord⟩
theorem eqp4 : ∀ x : psT Sp4.ps, exec ptab (ofL Ep14) 125 bodyp4 annp4 (fin ptab Sp4) (argSt Sp4 x) = Fp4 x := by
  rintro ⟨a0, a1, a2⟩
  kernel_rfl
theorem callsp4 : CallsAs Go.Proofs.Try.prog cp4 4 Sp4 Fp4 := by
  refine fun_calls (fn := Go.Proofs.Try.f4) (c := bodyp4) (ann := annp4) cp4 (by kernel_rfl) (by kernel_rfl) (by kernel_rfl) (by decide) (annOk_of_cuts ?_) eqp4
  intro x hx
  exact absurd hx (by show x ∉ ([] : List (List Nat × LEnt)); simp)

theorem entp4 : EntOk Go.Proofs.Try.prog 4 (funEnt Sp4 Fp4) := fun_ok cp4 (fn := Go.Proofs.Try.f4) (c := bodyp4) (by kernel_rfl) (by kernel_rfl) (by kernel_rfl) rfl rfl (by decide) callsp4
noncomputable def Ep4 : List (Nat × Ent) := (4, funEnt Sp4 Fp4) :: Ep14
theorem Ep4_ok : EntsOk Go.Proofs.Try.prog (ofL Ep4) := .cons entp4 Ep14_ok

/-! ### math/bits.RotateLeft64 -/
noncomputable def bodyp33 : Code := (Go.Proofs.Try.f33.body).getD .skip
noncomputable def Fp33 : Int × Int → Option (Int)
  | (a0, a1) =>
    if 0 ≤ (bitsAnd .u64 (IntKind.u64.wrap a1) 63) then
      let x1 : Int := (IntKind.u64.wrap (64 - (bitsAnd .u64 (IntKind.u64.wrap a1) 63)))
      if 0 ≤ x1 then
        let x2 : Int := (bitsOr .u64 (shlI .u64 a0 (bitsAnd .u64 (IntKind.u64.wrap a1) 63)) (shrI .u64 a0 x1))
        some x2
      else none
    else none

noncomputable def annp33 : Ann := .none
abbrev Sp33 : FSh := ⟨[.val (.c (.int .u64)), .val (.c (.int .i64))], [.val (.c (.int .u64))], [.tmp 4]⟩
noncomputable def cp33 : Ctx Go.Proofs.Try.prog := ⟨ptab, ofL Ep4, ptabOk, Ep4_ok, pdep, pord⟩
theorem eqp33 : ∀ x : psT Sp33.ps, exec ptab (ofL Ep4) 17 bodyp33 annp33 (fin ptab Sp33) (argSt Sp33 x) = Fp33 x := by
  rintro ⟨a0, a1⟩
  kernel_rfl
theorem callsp33 : CallsAs Go.Proofs.Try.prog cp33 33 Sp33 Fp33 := by
  refine fun_calls (fn := Go.Proofs.Try.f33) (c := bodyp33) (ann := annp33) cp33 (by kernel_rfl) (by kernel_rfl) (by kernel_rfl) (by decide) (annOk_of_cuts ?_) eqp33
  intro x hx
  exact absurd hx (by show x ∉ ([] : List (List Nat × LEnt)); simp)

theorem entp33 : EntOk Go.Proofs.Try.prog 33 (funEnt Sp33 Fp33) := fun_ok cp33 (fn := Go.Proofs.Try.f33) (c := bodyp33) (by kernel_rfl) (by kernel_rfl) (by kernel_rfl) rfl rfl (by decide) callsp33
noncomputable def Ep33 : List (Nat × Ent) := (33, funEnt Sp33 Fp33) :: Ep4
theorem Ep33_ok : EntsOk Go.Proofs.Try.prog (ofL Ep33) := .cons entp33 Ep4_ok

/-! ### barbican/keccak.Permute -/
noncomputable def bodyp32 : Code := (Go.Proofs.Try.f32.body).getD .skip
abbrev lp32_1 : Lay := ⟨[(1, .ptr 1 0 25), (2, .ptr 2 0 25), (4, .ptr 4 0 5)], [.env 3 (.c (.int .u8)), .env 17 (.c (.int .i64)), .env 19 (.agg [.ints .u64 25]), .env 20 (.c (.int .i64)), .reg 1 (.cells [.ints .u64 25]), .reg 2 (.cells [.ints .u64 25]), .reg 4 (.cells [.ints .u64 5])], [(1, 1), (2, 2), (4, 4)]⟩
abbrev op32_1 : List (AExit × Lay) := [(.exit 2, ⟨[(1, .ptr 1 0 25), (2, .ptr 2 0 25), (4, .ptr 4 0 5)], [.env 3 (.c (.int .u8)), .env 17 (.c (.int .i64)), .reg 1 (.cells [.ints .u64 25]), .reg 2 (.cells [.ints .u64 25]), .reg 4 (.cells [.ints .u64 5])], [(1, 1), (2, 2), (4, 4)]⟩)]
noncomputable def stepp32_1 : Int × Int × (Nat → Int) × Int × (Nat → Int) × (Nat → Int) × (Nat → Int) → Option ((Int × Int × (Nat → Int) × Int × (Nat → Int) × (Nat → Int) × (Nat → Int)) ⊕ ((Int × Int × (Nat → Int) × (Nat → Int) × (Nat → Int))))
  | (t3, t17, t19, t20, r1, r2, r4) =>
    if (decide (t20 < 25)) = true then
      if (0 : Int) ≤ t20 ∧ t20 < (25 : Int) then
        if (0 : Int) ≤ (t20.tmod 5) ∧ (t20.tmod 5) < ((5 : Int) : Int) then
          if (0 : Int) ≤ (t20.tmod 5) ∧ (t20.tmod 5) < ((5 : Int) : Int) then
            let f1 : Nat → Int := (upd r4 (t20.tmod 5).toNat (bitsXor .u64 (r4 (t20.tmod 5).toNat) (t19 t20.toNat)))
            some (.inl (t3, t17, t19, (IntKind.i64.wrap (t20 + 1)), r1, r2, f1))
          else none
        else none
      else none
    else
      some (.inr (t3, t17, r1, r2, r4))

noncomputable def annp32_1 : Ann := .none
abbrev lp32_2 : Lay := ⟨[(1, .ptr 1 0 25), (2, .ptr 2 0 25), (4, .ptr 4 0 5)], [.env 3 (.c (.int .u8)), .env 17 (.c (.int .i64)), .env 32 (.c (.int .i64)), .reg 1 (.cells [.ints .u64 25]), .reg 2 (.cells [.ints .u64 25]), .reg 4 (.cells [.ints .u64 5])], [(1, 1), (2, 2), (4, 4)]⟩
abbrev op32_2 : List (AExit × Lay) := [(.exit 4, ⟨[(1, .ptr 1 0 25), (2, .ptr 2 0 25)], [.env 3 (.c (.int .u8)), .env 17 (.c (.int .i64)), .reg 1 (.cells [.ints .u64 25]), .reg 2 (.cells [.ints .u64 25])], [(1, 1), (2, 2)]⟩)]
noncomputable def stepp32_2 : Int × Int × Int × (Nat → Int) × (Nat → Int) × (Nat → Int) → Option ((Int × Int × Int × (Nat → Int) × (Nat → Int) × (Nat → Int)) ⊕ ((Int × Int × (Nat → Int) × (Nat → Int))))
  | (t3, t17, t32, r1, r2, r4) =>
    if (decide (t32 < 25)) = true then
      if (0 : Int) ≤ t32 ∧ t32 < ((25 : Int) : Int) then
        if (0 : Int) ≤ ((IntKind.i64.wrap (t32 + 4)).tmod 5) ∧ ((IntKind.i64.wrap (t32 + 4)).tmod 5) < ((5 : Int) : Int) then
          if (0 : Int) ≤ ((IntKind.i64.wrap (t32 + 1)).tmod 5) ∧ ((IntKind.i64.wrap (t32 + 1)).tmod 5) < ((5 : Int) : Int) then
            (Fp33 ((r4 ((IntKind.i64.wrap (t32 + 1)).tmod 5).toNat), 1)).bind fun y7 =>
              let x8 : Int := (bitsXor .u64 (r4 ((IntKind.i64.wrap (t32 + 4)).tmod 5).toNat) y7)
              if (0 : Int) ≤ t32 ∧ t32 < ((25 : Int) : Int) then
                some (.inl (t3, t17, (IntKind.i64.wrap (t32 + 1)), (upd r1 t32.toNat (bitsXor .u64 (r1 t32.toNat) x8)), r2, r4))
              else none
          else none
        else none
      else none
    else
      some (.inr (t3, t17, r1, r2))

noncomputable def annp32_2 : Ann := .none
abbrev lp32_3 : Lay := ⟨[(1, .ptr 1 0 25), (2, .ptr 2 0 25)], [.env 3 (.c (.int .u8)), .env 8 (.c (.int .i64)), .env 9 (.c (.int .i64)), .env 10 (.c (.int .u64)), .env 17 (.c (.int .i64)), .env 55 (.c (.int .i64)), .reg 1 (.cells [.ints .u64 25]), .reg 2 (.cells [.ints .u64 25])], [(1, 1), (2, 2)]⟩
abbrev op32_3 : List (AExit × Lay) := [(.exit 6, ⟨[(1, .ptr 1 0 25), (2, .ptr 2 0 25)], [.env 3 (.c (.int .u8)), .env 17 (.c (.int .i64)), .reg 1 (.cells [.ints .u64 25]), .reg 2 (.cells [.ints .u64 25])], [(1, 1), (2, 2)]⟩)]
noncomputable def stepp32_3 : Int × Int × Int × Int × Int × Int × (Nat → Int) × (Nat → Int) → Option ((Int × Int × Int × Int × Int × Int × (Nat → Int) × (Nat → Int)) ⊕ ((Int × Int × (Nat → Int) × (Nat → Int))))
  | (t3, t8, t9, t10, t17, t55, r1, r2) =>
    if (decide (t55 < 24)) = true then
      let x13 : Int := (IntKind.i64.wrap ((IntKind.i64.wrap (2 * t8)) + (IntKind.i64.wrap (3 * t9))))
      let x14 : Int := (IntKind.i64.wrap ((IntKind.i64.wrap (t55 + 1)) * (IntKind.i64.wrap (t55 + 2))))
      (Fp33 (t10, ((IntKind.i64.wrap (x14.tdiv 2)).tmod 64))).bind fun y15 =>
        let x16 : Int := (IntKind.i64.wrap (t9 + (IntKind.i64.wrap (5 * (x13.tmod 5)))))
        let x17 : Int := (IntKind.i64.wrap (t9 + (IntKind.i64.wrap (5 * (x13.tmod 5)))))
        if (0 : Int) ≤ x17 ∧ x17 < ((25 : Int) : Int) then
          if (0 : Int) ≤ x16 ∧ x16 < ((25 : Int) : Int) then
            some (.inl (t3, t9, (x13.tmod 5), (r1 x17.toNat), t17, (IntKind.i64.wrap (t55 + 1)), (upd r1 x16.toNat y15), r2))
          else none
        else none
    else
      some (.inr (t3, t17, r1, r2))

noncomputable def annp32_3 : Ann := .none
abbrev lp32_5 : Lay := ⟨[(1, .ptr 1 0 25), (2, .ptr 2 0 25), (14, .ptr 14 0 5)], [.env 3 (.c (.int .u8)), .env 13 (.c (.int .i64)), .env 17 (.c (.int .i64)), .env 97 (.c (.int .i64)), .reg 1 (.cells [.ints .u64 25]), .reg 2 (.cells [.ints .u64 25]), .reg 14 (.cells [.ints .u64 5])], [(1, 1), (2, 2), (14, 14)]⟩
abbrev op32_5 : List (AExit × Lay) := [(.exit 10, ⟨[(1, .ptr 1 0 25), (2, .ptr 2 0 25)], [.env 3 (.c (.int .u8)), .env 13 (.c (.int .i64)), .env 17 (.c (.int .i64)), .reg 1 (.cells [.ints .u64 25]), .reg 2 (.cells [.ints .u64 25])], [(1, 1), (2, 2)]⟩)]
noncomputable def stepp32_5 : Int × Int × Int × Int × (Nat → Int) × (Nat → Int) × (Nat → Int) → Option ((Int × Int × Int × Int × (Nat → Int) × (Nat → Int) × (Nat → Int)) ⊕ ((Int × Int × Int × (Nat → Int) × (Nat → Int))))
  | (t3, t13, t17, t97, r1, r2, r14) =>
    if (decide (t97 < 5)) = true then
      if (0 : Int) ≤ t97 ∧ t97 < ((5 : Int) : Int) then
        if (0 : Int) ≤ ((IntKind.i64.wrap (t97 + 1)).tmod 5) ∧ ((IntKind.i64.wrap (t97 + 1)).tmod 5) < ((5 : Int) : Int) then
          let x22 : Int := (notI .u64 (r14 ((IntKind.i64.wrap (t97 + 1)).tmod 5).toNat))
          if (0 : Int) ≤ ((IntKind.i64.wrap (t97 + 2)).tmod 5) ∧ ((IntKind.i64.wrap (t97 + 2)).tmod 5) < ((5 : Int) : Int) then
            let x23 : Int := (bitsAnd .u64 x22 (r14 ((IntKind.i64.wrap (t97 + 2)).tmod 5).toNat))
            if (0 : Int) ≤ (IntKind.i64.wrap (t13 + t97)) ∧ (IntKind.i64.wrap (t13 + t97)) < ((25 : Int) : Int) then
              let f24 : Nat → Int := (upd r1 (IntKind.i64.wrap (t13 + t97)).toNat (bitsXor .u64 (r14 t97.toNat) x23))
              some (.inl (t3, t13, t17, (IntKind.i64.wrap (t97 + 1)), f24, r2, r14))
            else none
          else none
        else none
      else none
    else
      some (.inr (t3, t13, t17, r1, r2))

noncomputable def annp32_5 : Ann := .none
abbrev lp32_4 : Lay := ⟨[(1, .ptr 1 0 25), (2, .ptr 2 0 25)], [.env 3 (.c (.int .u8)), .env 13 (.c (.int .i64)), .env 17 (.c (.int .i64)), .reg 1 (.cells [.ints .u64 25]), .reg 2 (.cells [.ints .u64 25])], [(1, 1), (2, 2)]⟩
abbrev op32_4 : List (AExit × Lay) := [(.exit 8, ⟨[(1, .ptr 1 0 25), (2, .ptr 2 0 25)], [.env 3 (.c (.int .u8)), .env 17 (.c (.int .i64)), .reg 1 (.cells [.ints .u64 25]), .reg 2 (.cells [.ints .u64 25])], [(1, 1), (2, 2)]⟩)]
noncomputable def stepp32_4 : Int × Int × Int × (Nat → Int) × (Nat → Int) → Option ((Int × Int × Int × (Nat → Int) × (Nat → Int)) ⊕ ((Int × Int × (Nat → Int) × (Nat → Int))))
  | (t3, t13, t17, r1, r2) =>
    if (decide (t13 < 25)) = true then
      if (0 : Int) ≤ t13 ∧ t13 ≤ (IntKind.i64.wrap (t13 + 5)) ∧ (IntKind.i64.wrap (t13 + 5)) ≤ ((25 : Int) : Int) then
        if (5 : Int) ≤ ((((IntKind.i64.wrap (t13 + 5)).toNat - t13.toNat) : Nat) : Int) then
          (loopO stepp32_5 (t3, t13, t17, 0, r1, r2, (fun j => r1 (t13.toNat + j)))).bind fun (z25, z26, z27, z28, z29) =>
            some (.inl (z25, (IntKind.i64.wrap (z26 + 5)), z27, z28, z29))
        else none
      else none
    else
      some (.inr (t3, t17, r1, r2))

noncomputable def annp32_4 : Ann := (.seq .none (.seq (.seq (.seq .none (.seq .none (.seq (.cut (cutEnt lp32_5 op32_5 (loopO stepp32_5))) .none))) .none) .none))
abbrev lp32_6 : Lay := ⟨[(1, .ptr 1 0 25), (2, .ptr 2 0 25)], [.env 3 (.c (.int .u8)), .env 17 (.c (.int .i64)), .env 121 (.c (.int .i64)), .reg 1 (.cells [.ints .u64 25]), .reg 2 (.cells [.ints .u64 25])], [(1, 1), (2, 2)]⟩
abbrev op32_6 : List (AExit × Lay) := [(.exit 12, ⟨[(1, .ptr 1 0 25), (2, .ptr 2 0 25)], [.env 3 (.c (.int .u8)), .env 17 (.c (.int .i64)), .reg 1 (.cells [.ints .u64 25]), .reg 2 (.cells [.ints .u64 25])], [(1, 1), (2, 2)]⟩)]
noncomputable def stepp32_6 : Int × Int × Int × (Nat → Int) × (Nat → Int) → Option ((Int × Int × Int × (Nat → Int) × (Nat → Int)) ⊕ ((Int × Int × (Nat → Int) × (Nat → Int))))
  | (t3, t17, t121, r1, r2) =>
    if (decide (t121 < 7)) = true then
      if 0 ≤ t121 then
        if 0 ≤ (IntKind.u64.wrap ((shlI .u64 1 t121) - 1)) then
          let x34 : Int := (shlI .u64 (IntKind.u64.wrap (bitsAnd .u8 t3 1)) (IntKind.u64.wrap ((shlI .u64 1 t121) - 1)))
          let x35 : Int := (bitsXor .u8 (shlI .u8 t3 1) (IntKind.u8.wrap ((shrI .u8 t3 7) * 113)))
          some (.inl (x35, t17, (IntKind.i64.wrap (t121 + 1)), (upd r1 0 (bitsXor .u64 (r1 0) x34)), r2))
        else none
      else none
    else
      some (.inr (t3, t17, r1, r2))

noncomputable def annp32_6 : Ann := .none
abbrev lp32_0 : Lay := ⟨[(1, .ptr 1 0 25), (2, .ptr 2 0 25)], [.env 3 (.c (.int .u8)), .env 17 (.c (.int .i64)), .reg 1 (.cells [.ints .u64 25]), .reg 2 (.cells [.ints .u64 25])], [(1, 1), (2, 2)]⟩
abbrev op32_0 : List (AExit × Lay) := [(.exit 0, ⟨[(1, .ptr 1 0 25), (2, .ptr 2 0 25)], [.reg 1 (.cells [.ints .u64 25]), .reg 2 (.cells [.ints .u64 25])], [(1, 1), (2, 2)]⟩)]
noncomputable def stepp32_0 : Int × Int × (Nat → Int) × (Nat → Int) → Option ((Int × Int × (Nat → Int) × (Nat → Int)) ⊕ (((Nat → Int) × (Nat → Int))))
  | (t3, t17, r1, r2) =>
    if (decide (t17 < 24)) = true then
      (loopO stepp32_1 (t3, t17, r1, 0, r1, r2, (fun _ => 0))).bind fun (z2, z3, z4, z5, z6) =>
        (loopO stepp32_2 (z2, z3, 0, z4, z5, z6)).bind fun (z9, z10, z11, z12) =>
          (loopO stepp32_3 (z9, 1, 0, (z11 1), z10, 0, z11, z12)).bind fun (z18, z19, z20, z21) =>
            (loopO stepp32_4 (z18, 0, z19, z20, z21)).bind fun (z30, z31, z32, z33) =>
              (loopO stepp32_6 (z30, z31, 0, z32, z33)).bind fun (z36, z37, z38, z39) =>
                some (.inl (z36, (IntKind.i64.wrap (z37 + 1)), z38, z39))
    else
      some (.inr (r1, r2))

noncomputable def annp32_0 : Ann := (.seq .none (.seq .none (.seq (.seq (.seq .none (.seq (.seq .none (.seq (.cut (cutEnt lp32_1 op32_1 (loopO stepp32_1))) .none)) (.seq (.seq .none (.seq (.cut (cutEnt lp32_2 op32_2 (loopO stepp32_2))) .none)) (.seq .none (.seq .none (.seq (.seq .none (.seq (.cut (cutEnt lp32_3 op32_3 (loopO stepp32_3))) .none)) (.seq (.seq .none (.seq (.cut (cutEnt lp32_4 op32_4 (loopO stepp32_4))) .none)) (.seq .none (.seq (.cut (cutEnt lp32_6 op32_6 (loopO stepp32_6))) .none))))))))) .none) .none)))
noncomputable def Fp32 : (Nat → Int) → Option ((Nat → Int))
  | a0 =>
    (loopO stepp32_0 (1, 0, a0, (fun _ => 0))).bind fun (z40, z41) =>
      some z40

noncomputable def annp32 : Ann := (.seq .none (.seq .none (.seq (.seq .none (.seq (.cut (cutEnt lp32_0 op32_0 (loopO stepp32_0))) .none)) .none)))
abbrev Sp32 : FSh := ⟨[.val (.agg [.ints .u64 25])], [.val (.agg [.ints .u64 25])], [.cell 2 60]⟩
noncomputable def cp32 : Ctx Go.Proofs.Try.prog := ⟨ptab, ofL Ep33, ptabOk, Ep33_ok, pdep, pord⟩
theorem eqp32_1 : ∀ s : lp32_1.T, exec ptab (ofL Ep33) 144 (Code.at' [1, 1, 0, 1, 0, 0, 1, 1, 0, 0, 1, 0, 1, 0, 0] bodyp32) annp32_1 (fun e st => loopEnd (l := lp32_1) (outs := op32_1) e st) (lp32_1.enc s) = stepp32_1 s := by
  rintro ⟨t3, t17, t19, t20, r1, r2, r4⟩
  kernel_rfl
theorem okp32_1 : LOk Go.Proofs.Try.prog 144 (cutEnt lp32_1 op32_1 (loopO stepp32_1)) (Code.at' [1, 1, 0, 1, 0, 0, 1, 1, 0, 0, 1, 0, 1, 0] bodyp32) := by
  have e : Code.at' [1, 1, 0, 1, 0, 0, 1, 1, 0, 0, 1, 0, 1, 0] bodyp32 = .loop (Code.at' [1, 1, 0, 1, 0, 0, 1, 1, 0, 0, 1, 0, 1, 0, 0] bodyp32) := by kernel_rfl
  rw [e]
  refine loop_ok cp32 144 rfl rfl (annOk_of_cuts ?_) eqp32_1
  intro x hx
  exact absurd hx (by show x ∉ ([] : List (List Nat × LEnt)); simp)

theorem eqp32_2 : ∀ s : lp32_2.T, exec ptab (ofL Ep33) 144 (Code.at' [1, 1, 0, 1, 0, 0, 1, 1, 0, 0, 1, 1, 0, 1, 0, 0] bodyp32) annp32_2 (fun e st => loopEnd (l := lp32_2) (outs := op32_2) e st) (lp32_2.enc s) = stepp32_2 s := by
  rintro ⟨t3, t17, t32, r1, r2, r4⟩
  kernel_rfl
theorem okp32_2 : LOk Go.Proofs.Try.prog 144 (cutEnt lp32_2 op32_2 (loopO stepp32_2)) (Code.at' [1, 1, 0, 1, 0, 0, 1, 1, 0, 0, 1, 1, 0, 1, 0] bodyp32) := by
  have e : Code.at' [1, 1, 0, 1, 0, 0, 1, 1, 0, 0, 1, 1, 0, 1, 0] bodyp32 = .loop (Code.at' [1, 1, 0, 1, 0, 0, 1, 1, 0, 0, 1, 1, 0, 1, 0, 0] bodyp32) := by kernel_rfl
  rw [e]
  refine loop_ok cp32 144 rfl rfl (annOk_of_cuts ?_) eqp32_2
  intro x hx
  exact absurd hx (by show x ∉ ([] : List (List Nat × LEnt)); simp)

theorem eqp32_3 : ∀ s : lp32_3.T, exec ptab (ofL Ep33) 144 (Code.at' [1, 1, 0, 1, 0, 0, 1, 1, 0, 0, 1, 1, 1, 1, 1, 0, 1, 0, 0] bodyp32) annp32_3 (fun e st => loopEnd (l := lp32_3) (outs := op32_3) e st) (lp32_3.enc s) = stepp32_3 s := by
  rintro ⟨t3, t8, t9, t10, t17, t55, r1, r2⟩
  kernel_rfl
theorem okp32_3 : LOk Go.Proofs.Try.prog 144 (cutEnt lp32_3 op32_3 (loopO stepp32_3)) (Code.at' [1, 1, 0, 1, 0, 0, 1, 1, 0, 0, 1, 1, 1, 1, 1, 0, 1, 0] bodyp32) := by
  have e : Code.at' [1, 1, 0, 1, 0, 0, 1, 1, 0, 0, 1, 1, 1, 1, 1, 0, 1, 0] bodyp32 = .loop (Code.at' [1, 1, 0, 1, 0, 0, 1, 1, 0, 0, 1, 1, 1, 1, 1, 0, 1, 0, 0] bodyp32) := by kernel_rfl
  rw [e]
  refine loop_ok cp32 144 rfl rfl (annOk_of_cuts ?_) eqp32_3
  intro x hx
  exact absurd hx (by show x ∉ ([] : List (List Nat × LEnt)); simp)

theorem eqp32_5 : ∀ s : lp32_5.T, exec ptab (ofL Ep33) 144 (Code.at' [1, 1, 0, 1, 0, 0, 1, 1, 0, 0, 1, 1, 1, 1, 1, 1, 0, 1, 0, 0, 1, 0, 0, 1, 1, 0, 0] bodyp32) annp32_5 (fun e st => loopEnd (l := lp32_5) (outs := op32_5) e st) (lp32_5.enc s) = stepp32_5 s := by
  rintro ⟨t3, t13, t17, t97, r1, r2, r14⟩
  kernel_rfl
theorem okp32_5 : LOk Go.Proofs.Try.prog 144 (cutEnt lp32_5 op32_5 (loopO stepp32_5)) (Code.at' [1, 1, 0, 1, 0, 0, 1, 1, 0, 0, 1, 1, 1, 1, 1, 1, 0, 1, 0, 0, 1, 0, 0, 1, 1, 0] bodyp32) := by
  have e : Code.at' [1, 1, 0, 1, 0, 0, 1, 1, 0, 0, 1, 1, 1, 1, 1, 1, 0, 1, 0, 0, 1, 0, 0, 1, 1, 0] bodyp32 = .loop (Code.at' [1, 1, 0, 1, 0, 0, 1, 1, 0, 0, 1, 1, 1, 1, 1, 1, 0, 1, 0, 0, 1, 0, 0, 1, 1, 0, 0] bodyp32) := by kernel_rfl
  rw [e]
  refine loop_ok cp32 144 rfl rfl (annOk_of_cuts ?_) eqp32_5
  intro x hx
  exact absurd hx (by show x ∉ ([] : List (List Nat × LEnt)); simp)

theorem eqp32_4 : ∀ s : lp32_4.T, exec ptab (ofL Ep33) 144 (Code.at' [1, 1, 0, 1, 0, 0, 1, 1, 0, 0, 1, 1, 1, 1, 1, 1, 0, 1, 0, 0] bodyp32) annp32_4 (fun e st => loopEnd (l := lp32_4) (outs := op32_4) e st) (lp32_4.enc s) = stepp32_4 s := by
  rintro ⟨t3, t13, t17, r1, r2⟩
  kernel_rfl
theorem okp32_4 : LOk Go.Proofs.Try.prog 144 (cutEnt lp32_4 op32_4 (loopO stepp32_4)) (Code.at' [1, 1, 0, 1, 0, 0, 1, 1, 0, 0, 1, 1, 1, 1, 1, 1, 0, 1, 0] bodyp32) := by
  have e : Code.at' [1, 1, 0, 1, 0, 0, 1, 1, 0, 0, 1, 1, 1, 1, 1, 1, 0, 1, 0] bodyp32 = .loop (Code.at' [1, 1, 0, 1, 0, 0, 1, 1, 0, 0, 1, 1, 1, 1, 1, 1, 0, 1, 0, 0] bodyp32) := by kernel_rfl
  rw [e]
  refine loop_ok cp32 144 rfl rfl (annOk_of_cuts ?_) eqp32_4
  have hc : Ann.cuts annp32_4 = [([1, 0, 0, 1, 1, 0], (cutEnt lp32_5 op32_5 (loopO stepp32_5)))] := by kernel_rfl
  rw [hc]
  intro x hx
  simp only [List.mem_cons, List.not_mem_nil, or_false] at hx
  rcases hx with rfl
  · have e : Code.at' [1, 0, 0, 1, 1, 0] (Code.at' [1, 1, 0, 1, 0, 0, 1, 1, 0, 0, 1, 1, 1, 1, 1, 1, 0, 1, 0, 0] bodyp32) = Code.at' [1, 1, 0, 1, 0, 0, 1, 1, 0, 0, 1, 1, 1, 1, 1, 1, 0, 1, 0, 0, 1, 0, 0, 1, 1, 0] bodyp32 := by kernel_rfl
    rw [e]; exact okp32_5

theorem eqp32_6 : ∀ s : lp32_6.T, exec ptab (ofL Ep33) 144 (Code.at' [1, 1, 0, 1, 0, 0, 1, 1, 0, 0, 1, 1, 1, 1, 1, 1, 1, 1, 0, 0] bodyp32) annp32_6 (fun e st => loopEnd (l := lp32_6) (outs := op32_6) e st) (lp32_6.enc s) = stepp32_6 s := by
  rintro ⟨t3, t17, t121, r1, r2⟩
  kernel_rfl
theorem okp32_6 : LOk Go.Proofs.Try.prog 144 (cutEnt lp32_6 op32_6 (loopO stepp32_6)) (Code.at' [1, 1, 0, 1, 0, 0, 1, 1, 0, 0, 1, 1, 1, 1, 1, 1, 1, 1, 0] bodyp32) := by
  have e : Code.at' [1, 1, 0, 1, 0, 0, 1, 1, 0, 0, 1, 1, 1, 1, 1, 1, 1, 1, 0] bodyp32 = .loop (Code.at' [1, 1, 0, 1, 0, 0, 1, 1, 0, 0, 1, 1, 1, 1, 1, 1, 1, 1, 0, 0] bodyp32) := by kernel_rfl
  rw [e]
  refine loop_ok cp32 144 rfl rfl (annOk_of_cuts ?_) eqp32_6
  intro x hx
  exact absurd hx (by show x ∉ ([] : List (List Nat × LEnt)); simp)

theorem eqp32_0 : ∀ s : lp32_0.T, exec ptab (ofL Ep33) 144 (Code.at' [1, 1, 0, 1, 0, 0] bodyp32) annp32_0 (fun e st => loopEnd (l := lp32_0) (outs := op32_0) e st) (lp32_0.enc s) = stepp32_0 s := by
  rintro ⟨t3, t17, r1, r2⟩
  kernel_rfl
theorem okp32_0 : LOk Go.Proofs.Try.prog 144 (cutEnt lp32_0 op32_0 (loopO stepp32_0)) (Code.at' [1, 1, 0, 1, 0] bodyp32) := by
  have e : Code.at' [1, 1, 0, 1, 0] bodyp32 = .loop (Code.at' [1, 1, 0, 1, 0, 0] bodyp32) := by kernel_rfl
  rw [e]
  refine loop_ok cp32 144 rfl rfl (annOk_of_cuts ?_) eqp32_0
  have hc : Ann.cuts annp32_0 = [([1, 1, 0, 0, 1, 0, 1, 0], (cutEnt lp32_1 op32_1 (loopO stepp32_1))), ([1, 1, 0, 0, 1, 1, 0, 1, 0], (cutEnt lp32_2 op32_2 (loopO stepp32_2))), ([1, 1, 0, 0, 1, 1, 1, 1, 1, 0, 1, 0], (cutEnt lp32_3 op32_3 (loopO stepp32_3))), ([1, 1, 0, 0, 1, 1, 1, 1, 1, 1, 0, 1, 0], (cutEnt lp32_4 op32_4 (loopO stepp32_4))), ([1, 1, 0, 0, 1, 1, 1, 1, 1, 1, 1, 1, 0], (cutEnt lp32_6 op32_6 (loopO stepp32_6)))] := by kernel_rfl
  rw [hc]
  intro x hx
  simp only [List.mem_cons, List.not_mem_nil, or_false] at hx
  rcases hx with rfl | rfl | rfl | rfl | rfl
  · have e : Code.at' [1, 1, 0, 0, 1, 0, 1, 0] (Code.at' [1, 1, 0, 1, 0, 0] bodyp32) = Code.at' [1, 1, 0, 1, 0, 0, 1, 1, 0, 0, 1, 0, 1, 0] bodyp32 := by kernel_rfl
    rw [e]; exact okp32_1
  · have e : Code.at' [1, 1, 0, 0, 1, 1, 0, 1, 0] (Code.at' [1, 1, 0, 1, 0, 0] bodyp32) = Code.at' [1, 1, 0, 1, 0, 0, 1, 1, 0, 0, 1, 1, 0, 1, 0] bodyp32 := by kernel_rfl
    rw [e]; exact okp32_2
  · have e : Code.at' [1, 1, 0, 0, 1, 1, 1, 1, 1, 0, 1, 0] (Code.at' [1, 1, 0, 1, 0, 0] bodyp32) = Code.at' [1, 1, 0, 1, 0, 0, 1, 1, 0, 0, 1, 1, 1, 1, 1, 0, 1, 0] bodyp32 := by kernel_rfl
    rw [e]; exact okp32_3
  · have e : Code.at' [1, 1, 0, 0, 1, 1, 1, 1, 1, 1, 0, 1, 0] (Code.at' [1, 1, 0, 1, 0, 0] bodyp32) = Code.at' [1, 1, 0, 1, 0, 0, 1, 1, 0, 0, 1, 1, 1, 1, 1, 1, 0, 1, 0] bodyp32 := by kernel_rfl
    rw [e]; exact okp32_4
  · have e : Code.at' [1, 1, 0, 0, 1, 1, 1, 1, 1, 1, 1, 1, 0] (Code.at' [1, 1, 0, 1, 0, 0] bodyp32) = Code.at' [1, 1, 0, 1, 0, 0, 1, 1, 0, 0, 1, 1, 1, 1, 1, 1, 1, 1, 0] bodyp32 := by kernel_rfl
    rw [e]; exact okp32_6

theorem eqp32 : ∀ x : psT Sp32.ps, exec ptab (ofL Ep33) 144 bodyp32 annp32 (fin ptab Sp32) (argSt Sp32 x) = Fp32 x := by
  intro x
  kernel_rfl
theorem callsp32 : CallsAs Go.Proofs.Try.prog cp32 32 Sp32 Fp32 := by
  refine fun_calls (fn := Go.Proofs.Try.f32) (c := bodyp32) (ann := annp32) cp32 (by kernel_rfl) (by kernel_rfl) (by kernel_rfl) (by decide) (annOk_of_cuts ?_) eqp32
  have hc : Ann.cuts annp32 = [([1, 1, 0, 1, 0], (cutEnt lp32_0 op32_0 (loopO stepp32_0)))] := by kernel_rfl
  rw [hc]
  intro x hx
  simp only [List.mem_cons, List.not_mem_nil, or_false] at hx
  rcases hx with rfl
  · have e : Code.at' [1, 1, 0, 1, 0] bodyp32 = Code.at' [1, 1, 0, 1, 0] bodyp32 := by kernel_rfl
    rw [e]; exact okp32_0

theorem entp32 : EntOk Go.Proofs.Try.prog 32 (funEnt Sp32 Fp32) := fun_ok cp32 (fn := Go.Proofs.Try.f32) (c := bodyp32) (by kernel_rfl) (by kernel_rfl) (by kernel_rfl) rfl rfl (by decide) callsp32
noncomputable def Ep32 : List (Nat × Ent) := (32, funEnt Sp32 Fp32) :: Ep33
theorem Ep32_ok : EntsOk Go.Proofs.Try.prog (ofL Ep32) := .cons entp32 Ep33_ok
end Go.Abs
