import Derived.Test.YtmclgnhhbicelaaAbsTabL
import Derived.Test.YtmclgnhhbicelaaChecked
import Derived.KernelRfl
set_option linter.unusedVariables false
set_option maxRecDepth 100000
namespace Go.Abs
def stab : Tab := [
  (2, ⟨.int .i64, 1, 8, [.int .i64 0]⟩),
  (3, ⟨.int .i64, 1, 8, [.int .i64 0]⟩),
  (4, ⟨.bool, 1, 1, [.bool false]⟩),
  (5, ⟨.int .u8, 1, 1, [.int .u8 0]⟩),
  (9, ⟨.str, 1, 16, [.str ByteArray.empty]⟩),
  (21, ⟨.int .i32, 1, 4, [.int .i32 0]⟩),
  (22, ⟨.slice 5, 1, 24, [.val (.slice none 0 0)]⟩),
  (25, ⟨.array 256 21, 256, 1024, [.ints .i32 256 (fun _ => 0)]⟩),
  (36, ⟨.int .u64, 1, 8, [.int .u64 0]⟩),
  (37, ⟨.array 2 5, 2, 2, [.ints .u8 2 (fun _ => 0)]⟩),
  (39, ⟨.int .u64, 1, 8, [.int .u64 0]⟩),
  (41, ⟨.array 25 39, 25, 200, [.ints .u64 25 (fun _ => 0)]⟩),
  (43, ⟨.struct [(3, 0), (22, 1), (4, 2), (3, 3), (41, 4), (3, 29)], 30, 256, [.int .i64 0, .val (.slice none 0 0), .bool false, .int .i64 0, .ints .u64 25 (fun _ => 0), .int .i64 0]⟩),
  (46, ⟨.int .u32, 1, 4, [.int .u32 0]⟩),
  (47, ⟨.array 256 46, 256, 1024, [.ints .u32 256 (fun _ => 0)]⟩),
  (50, ⟨.ptr, 1, 8, [.val (.pointer none)]⟩),
  (60, ⟨.struct [(3, 0), (41, 1), (3, 26), (4, 27), (3, 28)], 29, 232, [.int .i64 0, .ints .u64 25 (fun _ => 0), .int .i64 0, .bool false, .int .i64 0]⟩),
  (62, ⟨.array 25 3, 25, 200, [.ints .i64 25 (fun _ => 0)]⟩),
  (64, ⟨.array 24 39, 24, 192, [.ints .u64 24 (fun _ => 0)]⟩),
  (67, ⟨.array 5 39, 5, 40, [.ints .u64 5 (fun _ => 0)]⟩)]
theorem stabOk : TabOk Go.Proofs.Try.prog stab := tabChk_ok (by kernel_rfl)
theorem sdep : 4 ≤ (Go.Proofs.Try.prog).depth := by
  have : Nat.ble 4 ((Go.Proofs.Try.prog).depth) = true := by kernel_rfl
  exact Nat.le_of_ble_eq_true this
theorem sord : (Go.Proofs.Try.prog).follows .mixedOrders = true := by kernel_rfl
def sstr0 : ByteArray := ⟨#[0, 32, 48, 64, 0, 0]⟩
def sstr1 : ByteArray := ⟨#[0, 136, 104, 72, 168, 136]⟩
def sstr2 : ByteArray := ⟨#[0, 6, 6, 6, 31, 31]⟩
noncomputable def sE0 : List (Nat × Ent) := []
theorem sE0_ok : EntsOk Go.Proofs.Try.prog (ofL sE0) := .nil _

/-! ### barbican/pack.lay -/
noncomputable def bodys17 : Code := (Go.Proofs.Try.f17.body).getD .skip
abbrev Ss17 : FL := ⟨⟨[], [.env 0 (.agg [.ints .u32 256]), .env 1 (.c (.int .i64))], []⟩, 2, [(.ret, ⟨[(0, .full 1)], [.reg 1 (.row 5 .u8)], [(1, .env 0 0)]⟩)], [.tmp 4], false⟩
noncomputable def cs17 : Ctx Go.Proofs.Try.prog := ⟨stab, ofL sE0, stabOk, sE0_ok, sdep, sord⟩
abbrev ls17_1 : Lay := ⟨[(5, .full 12)], [.env 1 (.c (.int .i64)), .env 6 (.c (.int .u64)), .env 7 (.c (.int .i64)), .env 13 (.agg [.ints .u32 256]), .env 14 (.c (.int .i64)), .reg 12 (.row 5 .u8)], [(12, .env 5 0)]⟩
abbrev os17_1 : List (AExit × Lay) := [(.exit 2, ⟨[(5, .full 12)], [.env 1 (.c (.int .i64)), .env 6 (.c (.int .u64)), .env 7 (.c (.int .i64)), .env 13 (.agg [.ints .u32 256]), .env 14 (.c (.int .i64)), .reg 12 (.row 5 .u8)], [(12, .env 5 0)]⟩)]
noncomputable def steps17_1 : Int × Int × Int × (Nat → Int) × Int × List Int → Option ((Int × Int × Int × (Nat → Int) × Int × List Int) ⊕ ((Int × Int × Int × (Nat → Int) × Int × List Int)))
  | (t1, t6, t7, t13, t14, r12) =>
    if (decide (t7 ≥ 8)) = true then
      if okBytes (r12.length + ((List.replicate 1 (0 : Int)).set 0 (IntKind.u8.wrap t6)).length) 1 then
        let f2 : List Int := (r12 ++ ((List.replicate 1 (0 : Int)).set 0 (IntKind.u8.wrap t6)))
        some (.inl (t1, (shrI .u64 t6 8), (IntKind.i64.wrap (t7 - 8)), t13, t14, f2))
      else none
    else
      some (.inr (t1, t6, t7, t13, t14, r12))

noncomputable def anns17_1 : Ann := .none
abbrev ls17_0 : Lay := ⟨[(5, .full 12)], [.env 1 (.c (.int .i64)), .env 6 (.c (.int .u64)), .env 7 (.c (.int .i64)), .env 13 (.agg [.ints .u32 256]), .env 14 (.c (.int .i64)), .reg 12 (.row 5 .u8)], [(12, .env 5 0)]⟩
abbrev os17_0 : List (AExit × Lay) := [(.exit 0, ⟨[(5, .full 12)], [.reg 12 (.row 5 .u8)], [(12, .env 5 0)]⟩)]
noncomputable def steps17_0 : Int × Int × Int × (Nat → Int) × Int × List Int → Option ((Int × Int × Int × (Nat → Int) × Int × List Int) ⊕ ((List Int)))
  | (t1, t6, t7, t13, t14, r12) =>
    if (decide (t14 < 256)) = true then
      if (0 : Int) ≤ t14 ∧ t14 < (256 : Int) then
        if 0 ≤ t7 then
          let x1 : Int := (bitsOr .u64 t6 (shlI .u64 (IntKind.u64.wrap (t13 t14.toNat)) t7))
          (loopO steps17_1 (t1, x1, (IntKind.i64.wrap (t7 + t1)), t13, t14, r12)).bind fun (z3, z4, z5, z6, z7, z8) =>
            some (.inl (z3, z4, z5, z6, (IntKind.i64.wrap (z7 + 1)), z8))
        else none
      else none
    else
      some (.inr r12)

noncomputable def anns17_0 : Ann := (.seq .none (.seq .none (.seq (.seq (.seq .none (.seq .none (.seq .none (.seq (.cut (cutEnt ls17_1 os17_1 (loopO (steps17_1)))) .none)))) .none) .none)))
noncomputable def Fs17 : (Nat → Int) × Int → Option ((List Int))
  | (a0, a1) =>
    if 0 ≤ (0 : Int) ∧ (0 : Int) ≤ (IntKind.i64.wrap (32 * a1)) ∧ okBytes (IntKind.i64.wrap (32 * a1)).toNat 1 then
      (loopO steps17_0 (a1, 0, 0, a0, 0, (List.replicate 0 (0 : Int)))).bind fun z9 =>
        some z9
    else none

noncomputable def anns17 : Ann := (.seq .none (.seq .none (.seq .none (.seq (.seq .none (.seq (.cut (cutEnt ls17_0 os17_0 (loopO (steps17_0)))) .none)) .none))))
theorem eqs17_1 : ∀ s : ls17_1.T, exec stab (ofL sE0) 39 (Code.at' [1, 1, 1, 0, 1, 0, 0, 1, 1, 0, 0, 1, 1, 1, 0, 0] bodys17) anns17_1 (fun e st => loopEnd (l := ls17_1) (outs := os17_1) e st) (ls17_1.enc s) = steps17_1 s := by
  rintro ⟨t1, t6, t7, t13, t14, r12⟩
  kernel_rfl
theorem oks17_1 : LOk Go.Proofs.Try.prog 39 (cutEnt ls17_1 os17_1 (loopO steps17_1)) (Code.at' [1, 1, 1, 0, 1, 0, 0, 1, 1, 0, 0, 1, 1, 1, 0] bodys17) := by
  have e : Code.at' [1, 1, 1, 0, 1, 0, 0, 1, 1, 0, 0, 1, 1, 1, 0] bodys17 = .loop (Code.at' [1, 1, 1, 0, 1, 0, 0, 1, 1, 0, 0, 1, 1, 1, 0, 0] bodys17) := by kernel_rfl
  rw [e]
  refine loop_ok cs17 39 rfl rfl (annOk_of_cuts ?_) eqs17_1
  intro x hx
  exact absurd hx (by show x ∉ ([] : List (List Nat × LEnt)); simp)

theorem eqs17_0 : ∀ s : ls17_0.T, exec stab (ofL sE0) 39 (Code.at' [1, 1, 1, 0, 1, 0, 0] bodys17) anns17_0 (fun e st => loopEnd (l := ls17_0) (outs := os17_0) e st) (ls17_0.enc s) = steps17_0 s := by
  rintro ⟨t1, t6, t7, t13, t14, r12⟩
  kernel_rfl
theorem oks17_0 : LOk Go.Proofs.Try.prog 39 (cutEnt ls17_0 os17_0 (loopO steps17_0)) (Code.at' [1, 1, 1, 0, 1, 0] bodys17) := by
  have e : Code.at' [1, 1, 1, 0, 1, 0] bodys17 = .loop (Code.at' [1, 1, 1, 0, 1, 0, 0] bodys17) := by kernel_rfl
  rw [e]
  refine loop_ok cs17 39 rfl rfl (annOk_of_cuts ?_) eqs17_0
  have hc : Ann.cuts anns17_0 = [([1, 1, 0, 0, 1, 1, 1, 0], (cutEnt ls17_1 os17_1 (loopO (steps17_1))))] := by kernel_rfl
  rw [hc]
  intro x hx
  simp only [List.mem_cons, List.not_mem_nil, or_false] at hx
  rcases hx with rfl
  · have e : Code.at' [1, 1, 0, 0, 1, 1, 1, 0] (Code.at' [1, 1, 1, 0, 1, 0, 0] bodys17) = Code.at' [1, 1, 1, 0, 1, 0, 0, 1, 1, 0, 0, 1, 1, 1, 0] bodys17 := by kernel_rfl
    rw [e]; exact oks17_1

theorem eqs17 : ∀ x : Ss17.inT, exec stab (ofL sE0) 39 bodys17 anns17 (finL stab Ss17) (Ss17.inp.enc x) = Fs17 x := by
  rintro ⟨a0, a1⟩
  kernel_rfl
theorem callss17 : CallsL Go.Proofs.Try.prog 17 Ss17 Fs17 := by
  refine fun_callsL (fn := Go.Proofs.Try.f17) (c := bodys17) (ann := anns17) cs17 (by kernel_rfl) (by kernel_rfl) (by kernel_rfl) (by kernel_rfl) (by kernel_rfl) (annOk_of_cuts ?_) eqs17
  have hc : Ann.cuts anns17 = [([1, 1, 1, 0, 1, 0], (cutEnt ls17_0 os17_0 (loopO (steps17_0))))] := by kernel_rfl
  rw [hc]
  intro x hx
  simp only [List.mem_cons, List.not_mem_nil, or_false] at hx
  rcases hx with rfl
  · have e : Code.at' [1, 1, 1, 0, 1, 0] bodys17 = Code.at' [1, 1, 1, 0, 1, 0] bodys17 := by kernel_rfl
    rw [e]; exact oks17_0

theorem ents17 : EntOk Go.Proofs.Try.prog 17 (funEntL Ss17 true Fs17) := fun_okL (fn := Go.Proofs.Try.f17) (c := bodys17) (by kernel_rfl) (by kernel_rfl) (by kernel_rfl) (by kernel_rfl) callss17
noncomputable def Es17 : List (Nat × Ent) := (17, funEntL Ss17 true Fs17) :: sE0
theorem Es17_ok : EntsOk Go.Proofs.Try.prog (ofL Es17) := .cons ents17 sE0_ok

/-! ### barbican/pack.Up -/
noncomputable def bodys11 : Code := (Go.Proofs.Try.f11.body).getD .skip
abbrev Ss11 : FL := ⟨⟨[], [.env 0 (.agg [.ints .i32 256]), .env 1 (.c (.int .i64))], []⟩, 2, [(.ret, ⟨[(0, .full 1)], [.reg 1 (.row 5 .u8), .env 1 (.c (.int .i64))], [(1, .env 0 0)]⟩)], [.tmp 4, .tmp 5], false⟩
noncomputable def cs11 : Ctx Go.Proofs.Try.prog := ⟨stab, ofL Es17, stabOk, Es17_ok, sdep, sord⟩
abbrev ls11_0 : Lay := ⟨[(6, .ptr 6 0 256)], [.env 1 (.c (.int .i64)), .env 15 (.agg [.ints .i32 256]), .env 16 (.c (.int .i64)), .reg 6 (.cells [.ints .u32 256])], [(6, .env 6 0)]⟩
abbrev os11_0 : List (AExit × Lay) := [(.ret, ⟨[(4, .full 4)], [.env 5 (.c (.int .i64)), .reg 4 (.row 5 .u8)], [(4, .env 4 0)]⟩), (.exit 0, ⟨[(6, .ptr 6 0 256)], [.env 1 (.c (.int .i64)), .reg 6 (.cells [.ints .u32 256])], [(6, .env 6 0)]⟩)]
noncomputable def steps11_0 : Int × (Nat → Int) × Int × (Nat → Int) → Option ((Int × (Nat → Int) × Int × (Nat → Int)) ⊕ ((Int × List Int) ⊕ (Int × (Nat → Int))))
  | (t1, t15, t16, r6) =>
    if (decide (t16 < 256)) = true then
      if (0 : Int) ≤ t16 ∧ t16 < (256 : Int) then
        if (decide ((t15 t16.toNat) < 0)) = false then
          if (decide ((t15 t16.toNat) ≥ 8380417)) = false then
            if 0 ≤ t1 then
              if ((shrI .i32 (t15 t16.toNat) t1) != 0) = true then
                some (.inr (.inl (92, ([] : List Int))))
              else
                if (0 : Int) ≤ t16 ∧ t16 < ((256 : Int) : Int) then
                  some (.inl (t1, t15, (IntKind.i64.wrap (t16 + 1)), (upd r6 t16.toNat (IntKind.u32.wrap (t15 t16.toNat)))))
                else none
            else none
          else
            some (.inr (.inl (92, ([] : List Int))))
        else
          some (.inr (.inl (92, ([] : List Int))))
      else none
    else
      some (.inr (.inr (t1, r6)))

noncomputable def anns11_0 : Ann := .none
noncomputable def Fs11 : (Nat → Int) × Int → Option ((List Int × Int))
  | (a0, a1) =>
    if (decide (a1 < 1)) = false then
      if (decide (a1 > 23)) = true then
        some (([] : List Int), 1)
      else
        (loopO steps11_0 (a1, a0, 0, (fun _ => 0))).bind fun
          | (.inl (z1, z2)) =>
            some (z2, z1)
          | (.inr (z3, z4)) =>
            (Fs17 (z4, z3)).bind fun y5 =>
              some (y5, 0)
    else
      some (([] : List Int), 1)

noncomputable def anns11 : Ann := (.seq .none (.seq .none (.seq .none (.seq (.seq .none (.seq (.cut (cutEnt ls11_0 os11_0 (loopO (steps11_0)))) .none)) .none))))
theorem eqs11_0 : ∀ s : ls11_0.T, exec stab (ofL Es17) 40 (Code.at' [1, 1, 1, 0, 1, 0, 0] bodys11) anns11_0 (fun e st => loopEnd (l := ls11_0) (outs := os11_0) e st) (ls11_0.enc s) = steps11_0 s := by
  rintro ⟨t1, t15, t16, r6⟩
  kernel_rfl
theorem oks11_0 : LOk Go.Proofs.Try.prog 40 (cutEnt ls11_0 os11_0 (loopO steps11_0)) (Code.at' [1, 1, 1, 0, 1, 0] bodys11) := by
  have e : Code.at' [1, 1, 1, 0, 1, 0] bodys11 = .loop (Code.at' [1, 1, 1, 0, 1, 0, 0] bodys11) := by kernel_rfl
  rw [e]
  refine loop_ok cs11 40 rfl rfl (annOk_of_cuts ?_) eqs11_0
  intro x hx
  exact absurd hx (by show x ∉ ([] : List (List Nat × LEnt)); simp)

theorem eqs11 : ∀ x : Ss11.inT, exec stab (ofL Es17) 40 bodys11 anns11 (finL stab Ss11) (Ss11.inp.enc x) = Fs11 x := by
  rintro ⟨a0, a1⟩
  kernel_rfl
theorem callss11 : CallsL Go.Proofs.Try.prog 11 Ss11 Fs11 := by
  refine fun_callsL (fn := Go.Proofs.Try.f11) (c := bodys11) (ann := anns11) cs11 (by kernel_rfl) (by kernel_rfl) (by kernel_rfl) (by kernel_rfl) (by kernel_rfl) (annOk_of_cuts ?_) eqs11
  have hc : Ann.cuts anns11 = [([1, 1, 1, 0, 1, 0], (cutEnt ls11_0 os11_0 (loopO (steps11_0))))] := by kernel_rfl
  rw [hc]
  intro x hx
  simp only [List.mem_cons, List.not_mem_nil, or_false] at hx
  rcases hx with rfl
  · have e : Code.at' [1, 1, 1, 0, 1, 0] bodys11 = Code.at' [1, 1, 1, 0, 1, 0] bodys11 := by kernel_rfl
    rw [e]; exact oks11_0

theorem ents11 : EntOk Go.Proofs.Try.prog 11 (funEntL Ss11 true Fs11) := fun_okL (fn := Go.Proofs.Try.f11) (c := bodys11) (by kernel_rfl) (by kernel_rfl) (by kernel_rfl) (by kernel_rfl) callss11
noncomputable def Es11 : List (Nat × Ent) := (11, funEntL Ss11 true Fs11) :: Es17
theorem Es11_ok : EntsOk Go.Proofs.Try.prog (ofL Es11) := .cons ents11 Es17_ok

/-! ### barbican/pack.wrong -/
noncomputable def bodys18 : Code := (Go.Proofs.Try.f18.body).getD .skip
abbrev Ss18 : FL := ⟨⟨[], [.env 0 (.c (.int .i32)), .env 1 (.c (.int .i64))], []⟩, 2, [(.ret, ⟨[], [.env 0 (.c (.bool))], []⟩)], [.tmp 4], false⟩
noncomputable def cs18 : Ctx Go.Proofs.Try.prog := ⟨stab, ofL Es11, stabOk, Es11_ok, sdep, sord⟩
noncomputable def Fs18 : Int × Int → Option ((Bool))
  | (a0, a1) =>
    if (decide (a1 < 1)) = false then
      if (decide (a1 > 22)) = false then
        if (decide (a0 < 0)) = false then
          some (decide (a0 > 4194304))
        else
          some true
      else
        some true
    else
      some true

noncomputable def anns18 : Ann := .none
theorem eqs18 : ∀ x : Ss18.inT, exec stab (ofL Es11) 19 bodys18 anns18 (finL stab Ss18) (Ss18.inp.enc x) = Fs18 x := by
  rintro ⟨a0, a1⟩
  kernel_rfl
theorem callss18 : CallsL Go.Proofs.Try.prog 18 Ss18 Fs18 := by
  refine fun_callsL (fn := Go.Proofs.Try.f18) (c := bodys18) (ann := anns18) cs18 (by kernel_rfl) (by kernel_rfl) (by kernel_rfl) (by kernel_rfl) (by kernel_rfl) (annOk_of_cuts ?_) eqs18
  intro x hx
  exact absurd hx (by show x ∉ ([] : List (List Nat × LEnt)); simp)

theorem ents18 : EntOk Go.Proofs.Try.prog 18 (funEntL Ss18 true Fs18) := fun_okL (fn := Go.Proofs.Try.f18) (c := bodys18) (by kernel_rfl) (by kernel_rfl) (by kernel_rfl) (by kernel_rfl) callss18
noncomputable def Es18 : List (Nat × Ent) := (18, funEntL Ss18 true Fs18) :: Es11
theorem Es18_ok : EntsOk Go.Proofs.Try.prog (ofL Es18) := .cons ents18 Es11_ok

/-! ### barbican/pack.Down -/
noncomputable def bodys12 : Code := (Go.Proofs.Try.f12.body).getD .skip
abbrev Ss12 : FL := ⟨⟨[], [.env 0 (.agg [.ints .i32 256]), .env 1 (.c (.int .i32)), .env 2 (.c (.int .i64))], []⟩, 3, [(.ret, ⟨[(0, .full 1)], [.reg 1 (.row 5 .u8), .env 1 (.c (.int .i64))], [(1, .env 0 0)]⟩)], [.tmp 6, .tmp 7], false⟩
noncomputable def cs12 : Ctx Go.Proofs.Try.prog := ⟨stab, ofL Es18, stabOk, Es18_ok, sdep, sord⟩
abbrev ls12_0 : Lay := ⟨[(8, .ptr 8 0 256)], [.env 1 (.c (.int .i32)), .env 2 (.c (.int .i64)), .env 14 (.agg [.ints .i32 256]), .env 15 (.c (.int .i64)), .reg 8 (.cells [.ints .u32 256])], [(8, .env 8 0)]⟩
abbrev os12_0 : List (AExit × Lay) := [(.ret, ⟨[(6, .full 6)], [.env 7 (.c (.int .i64)), .reg 6 (.row 5 .u8)], [(6, .env 6 0)]⟩), (.exit 0, ⟨[(8, .ptr 8 0 256)], [.env 2 (.c (.int .i64)), .reg 8 (.cells [.ints .u32 256])], [(8, .env 8 0)]⟩)]
noncomputable def steps12_0 : Int × Int × (Nat → Int) × Int × (Nat → Int) → Option ((Int × Int × (Nat → Int) × Int × (Nat → Int)) ⊕ ((Int × List Int) ⊕ (Int × (Nat → Int))))
  | (t1, t2, t14, t15, r8) =>
    if (decide (t15 < 256)) = true then
      if (0 : Int) ≤ t15 ∧ t15 < (256 : Int) then
        if (decide ((t14 t15.toNat) < 0)) = false then
          if (decide ((t14 t15.toNat) ≥ 8380417)) = true then
            some (.inr (.inl (92, ([] : List Int))))
          else
            if (decide ((t14 t15.toNat) > 4190208)) = true then
              let x2 : Int := (IntKind.i32.wrap (t1 - (IntKind.i32.wrap ((t14 t15.toNat) - 8380417))))
              if (decide (x2 < 0)) = false then
                if 0 ≤ t2 then
                  if ((shrI .i32 x2 t2) != 0) = true then
                    some (.inr (.inl (92, ([] : List Int))))
                  else
                    if (0 : Int) ≤ t15 ∧ t15 < ((256 : Int) : Int) then
                      some (.inl (t1, t2, t14, (IntKind.i64.wrap (t15 + 1)), (upd r8 t15.toNat (IntKind.u32.wrap x2))))
                    else none
                else none
              else
                some (.inr (.inl (92, ([] : List Int))))
            else
              if (decide ((IntKind.i32.wrap (t1 - (t14 t15.toNat))) < 0)) = false then
                if 0 ≤ t2 then
                  let x3 : Bool := ((shrI .i32 (IntKind.i32.wrap (t1 - (t14 t15.toNat))) t2) != 0)
                  if x3 = true then
                    some (.inr (.inl (92, ([] : List Int))))
                  else
                    if (0 : Int) ≤ t15 ∧ t15 < ((256 : Int) : Int) then
                      let f4 : Nat → Int := (upd r8 t15.toNat (IntKind.u32.wrap (IntKind.i32.wrap (t1 - (t14 t15.toNat)))))
                      some (.inl (t1, t2, t14, (IntKind.i64.wrap (t15 + 1)), f4))
                    else none
                else none
              else
                some (.inr (.inl (92, ([] : List Int))))
        else
          some (.inr (.inl (92, ([] : List Int))))
      else none
    else
      some (.inr (.inr (t2, r8)))

noncomputable def anns12_0 : Ann := .none
noncomputable def Fs12 : (Nat → Int) × Int × Int → Option ((List Int × Int))
  | (a0, a1, a2) =>
    (Fs18 (a1, a2)).bind fun y1 =>
      if y1 = true then
        some (([] : List Int), 1)
      else
        (loopO steps12_0 (a1, a2, a0, 0, (fun _ => 0))).bind fun
          | (.inl (z5, z6)) =>
            some (z6, z5)
          | (.inr (z7, z8)) =>
            (Fs17 (z8, z7)).bind fun y9 =>
              some (y9, 0)

noncomputable def anns12 : Ann := (.seq .none (.seq .none (.seq .none (.seq (.seq .none (.seq (.cut (cutEnt ls12_0 os12_0 (loopO (steps12_0)))) .none)) .none))))
theorem eqs12_0 : ∀ s : ls12_0.T, exec stab (ofL Es18) 48 (Code.at' [1, 1, 1, 0, 1, 0, 0] bodys12) anns12_0 (fun e st => loopEnd (l := ls12_0) (outs := os12_0) e st) (ls12_0.enc s) = steps12_0 s := by
  rintro ⟨t1, t2, t14, t15, r8⟩
  kernel_rfl
theorem oks12_0 : LOk Go.Proofs.Try.prog 48 (cutEnt ls12_0 os12_0 (loopO steps12_0)) (Code.at' [1, 1, 1, 0, 1, 0] bodys12) := by
  have e : Code.at' [1, 1, 1, 0, 1, 0] bodys12 = .loop (Code.at' [1, 1, 1, 0, 1, 0, 0] bodys12) := by kernel_rfl
  rw [e]
  refine loop_ok cs12 48 rfl rfl (annOk_of_cuts ?_) eqs12_0
  intro x hx
  exact absurd hx (by show x ∉ ([] : List (List Nat × LEnt)); simp)

theorem eqs12 : ∀ x : Ss12.inT, exec stab (ofL Es18) 48 bodys12 anns12 (finL stab Ss12) (Ss12.inp.enc x) = Fs12 x := by
  rintro ⟨a0, a1, a2⟩
  kernel_rfl
theorem callss12 : CallsL Go.Proofs.Try.prog 12 Ss12 Fs12 := by
  refine fun_callsL (fn := Go.Proofs.Try.f12) (c := bodys12) (ann := anns12) cs12 (by kernel_rfl) (by kernel_rfl) (by kernel_rfl) (by kernel_rfl) (by kernel_rfl) (annOk_of_cuts ?_) eqs12
  have hc : Ann.cuts anns12 = [([1, 1, 1, 0, 1, 0], (cutEnt ls12_0 os12_0 (loopO (steps12_0))))] := by kernel_rfl
  rw [hc]
  intro x hx
  simp only [List.mem_cons, List.not_mem_nil, or_false] at hx
  rcases hx with rfl
  · have e : Code.at' [1, 1, 1, 0, 1, 0] bodys12 = Code.at' [1, 1, 1, 0, 1, 0] bodys12 := by kernel_rfl
    rw [e]; exact oks12_0

theorem ents12 : EntOk Go.Proofs.Try.prog 12 (funEntL Ss12 true Fs12) := fun_okL (fn := Go.Proofs.Try.f12) (c := bodys12) (by kernel_rfl) (by kernel_rfl) (by kernel_rfl) (by kernel_rfl) callss12
noncomputable def Es12 : List (Nat × Ent) := (12, funEntL Ss12 true Fs12) :: Es18
theorem Es12_ok : EntsOk Go.Proofs.Try.prog (ofL Es12) := .cons ents12 Es18_ok

/-! ### barbican/barbicanlaw09.awake -/
noncomputable def bodys4 : Code := (Go.Proofs.Try.f4.body).getD .skip
abbrev Ss4 : FL := ⟨⟨[], [], []⟩, 0, [(.ret, ⟨[], [.env 0 (.c (.bool))], []⟩)], [.tmp 0], false⟩
noncomputable def cs4 : Ctx Go.Proofs.Try.prog := ⟨stab, ofL Es12, stabOk, Es12_ok, sdep, sord⟩
noncomputable def Fs4 : Unit → Option ((Bool))
  | _ =>
    (Fs11 ((upd (upd (fun _ => 0) 0 0) 1 1), 1)).bind fun (y1, y2) =>
      (Fs12 ((fun _ => 0), 3, 2)).bind fun (y3, y4) =>
        if (y2 == 0) = true then
          if ((y1.length : Int) == 32) = true then
            if (0 : Int) ≤ (0 : Int) ∧ (0 : Int) < (y1.length : Int) then
              if ((y1.getD 0 0) == 2) = true then
                if (y4 == 0) = true then
                  if ((y3.length : Int) == 64) = true then
                    if (0 : Int) ≤ (0 : Int) ∧ (0 : Int) < (y3.length : Int) then
                      some ((y3.getD 0 0) == 255)
                    else none
                  else
                    some false
                else
                  some false
              else
                some false
            else none
          else
            some false
        else
          some false

noncomputable def anns4 : Ann := .none
theorem eqs4 : ∀ x : Ss4.inT, exec stab (ofL Es12) 43 bodys4 anns4 (finL stab Ss4) (Ss4.inp.enc x) = Fs4 x := by
  intro x
  kernel_rfl
theorem callss4 : CallsL Go.Proofs.Try.prog 4 Ss4 Fs4 := by
  refine fun_callsL (fn := Go.Proofs.Try.f4) (c := bodys4) (ann := anns4) cs4 (by kernel_rfl) (by kernel_rfl) (by kernel_rfl) (by kernel_rfl) (by kernel_rfl) (annOk_of_cuts ?_) eqs4
  intro x hx
  exact absurd hx (by show x ∉ ([] : List (List Nat × LEnt)); simp)

theorem ents4 : EntOk Go.Proofs.Try.prog 4 (funEntL Ss4 true Fs4) := fun_okL (fn := Go.Proofs.Try.f4) (c := bodys4) (by kernel_rfl) (by kernel_rfl) (by kernel_rfl) (by kernel_rfl) callss4
noncomputable def Es4 : List (Nat × Ent) := (4, funEntL Ss4 true Fs4) :: Es12
theorem Es4_ok : EntsOk Go.Proofs.Try.prog (ofL Es4) := .cons ents4 Es12_ok

/-! ### barbican/keccak.New -/
noncomputable def bodys19 : Code := (Go.Proofs.Try.f19.body).getD .skip
abbrev Ss19 : FL := ⟨⟨[], [.env 0 (.c (.int .i64))], []⟩, 1, [(.ret, ⟨[(0, .ptr 1 0 29)], [.reg 1 (.cells [.int .i64, .ints .u64 25, .int .i64, .bool, .int .i64]), .env 1 (.c (.int .i64))], [(1, .env 0 0)]⟩), (.ret, ⟨[(0, .nilp)], [.env 1 (.c (.int .i64))], []⟩)], [.tmp 2, .tmp 3], false⟩
noncomputable def cs19 : Ctx Go.Proofs.Try.prog := ⟨stab, ofL Es4, stabOk, Es4_ok, sdep, sord⟩
noncomputable def Fs19 : Int → Option (((Int × (Nat → Int) × Int × Bool × Int) × Int) ⊕ (Int))
  | a0 =>
    if (decide (a0 < 1)) = false then
      if (decide (a0 > 5)) = true then
        some (.inr 31)
      else
        if 0 ≤ a0 ∧ a0 < (sstr0.size : Int) then
          if ((IntKind.i64.wrap (strAt sstr0 a0)) == 0) = true then
            some (.inl ((a0, (fun _ => 0), 0, false, (-1)), 0))
          else
            some (.inl ((a0, (fun _ => 0), 0, false, (IntKind.i64.wrap (strAt sstr0 a0))), 0))
        else none
    else
      some (.inr 31)

noncomputable def anns19 : Ann := .none
theorem eqs19 : ∀ x : Ss19.inT, exec stab (ofL Es4) 26 bodys19 anns19 (finL stab Ss19) (Ss19.inp.enc x) = Fs19 x := by
  intro x
  kernel_rfl
theorem callss19 : CallsL Go.Proofs.Try.prog 19 Ss19 Fs19 := by
  refine fun_callsL (fn := Go.Proofs.Try.f19) (c := bodys19) (ann := anns19) cs19 (by kernel_rfl) (by kernel_rfl) (by kernel_rfl) (by kernel_rfl) (by kernel_rfl) (annOk_of_cuts ?_) eqs19
  intro x hx
  exact absurd hx (by show x ∉ ([] : List (List Nat × LEnt)); simp)

theorem ents19 : EntOk Go.Proofs.Try.prog 19 (funEntL Ss19 true Fs19) := fun_okL (fn := Go.Proofs.Try.f19) (c := bodys19) (by kernel_rfl) (by kernel_rfl) (by kernel_rfl) (by kernel_rfl) callss19
noncomputable def Es19 : List (Nat × Ent) := (19, funEntL Ss19 true Fs19) :: Es4
theorem Es19_ok : EntsOk Go.Proofs.Try.prog (ofL Es19) := .cons ents19 Es4_ok

/-! ### (*barbican/keccak.Sponge).mix -/
noncomputable def bodys28 : Code := (Go.Proofs.Try.f28.body).getD .skip
abbrev Ss28 : FL := ⟨⟨[(0, .ptr 1000000 0 29)], [.reg 1000000 (.cells [.int .i64, .ints .u64 25, .int .i64, .bool, .int .i64]), .env 1 (.c (.int .i64)), .env 2 (.c (.int .u8))], [(1000000, .env 0 0)]⟩, 3, [(.ret, ⟨[], [.reg 1000000 (.cells [.int .i64, .ints .u64 25, .int .i64, .bool, .int .i64])], []⟩)], [], false⟩
noncomputable def cs28 : Ctx Go.Proofs.Try.prog := ⟨stab, ofL Es19, stabOk, Es19_ok, sdep, sord⟩
noncomputable def Fs28 : (Int × (Nat → Int) × Int × Bool × Int) × Int × Int → Option ((Int × (Nat → Int) × Int × Bool × Int))
  | (io, a1, a2) =>
    if (0 : Int) ≤ (IntKind.i64.wrap (a1.tdiv 8)) ∧ (IntKind.i64.wrap (a1.tdiv 8)) < ((25 : Int) : Int) then
      if 0 ≤ (IntKind.i64.wrap (8 * (a1.tmod 8))) then
        let x1 : Int := (shlI .u64 (IntKind.u64.wrap a2) (IntKind.i64.wrap (8 * (a1.tmod 8))))
        let x2 : Int := (bitsXor .u64 (io.2.1 (IntKind.i64.wrap (a1.tdiv 8)).toNat) x1)
        if (0 : Int) ≤ (IntKind.i64.wrap (a1.tdiv 8)) ∧ (IntKind.i64.wrap (a1.tdiv 8)) < ((25 : Int) : Int) then
          some (io.1, (upd io.2.1 (IntKind.i64.wrap (a1.tdiv 8)).toNat x2), io.2.2.1, io.2.2.2.1, io.2.2.2.2)
        else none
      else none
    else none

noncomputable def anns28 : Ann := .none
theorem eqs28 : ∀ x : Ss28.inT, exec stab (ofL Es19) 23 bodys28 anns28 (finL stab Ss28) (Ss28.inp.enc x) = Fs28 x := by
  rintro ⟨io, a1, a2⟩
  kernel_rfl
theorem callss28 : CallsL Go.Proofs.Try.prog 28 Ss28 Fs28 := by
  refine fun_callsL (fn := Go.Proofs.Try.f28) (c := bodys28) (ann := anns28) cs28 (by kernel_rfl) (by kernel_rfl) (by kernel_rfl) (by kernel_rfl) (by kernel_rfl) (annOk_of_cuts ?_) eqs28
  intro x hx
  exact absurd hx (by show x ∉ ([] : List (List Nat × LEnt)); simp)

theorem ents28 : EntOk Go.Proofs.Try.prog 28 (funEntL Ss28 true Fs28) := fun_okL (fn := Go.Proofs.Try.f28) (c := bodys28) (by kernel_rfl) (by kernel_rfl) (by kernel_rfl) (by kernel_rfl) callss28
noncomputable def Es28 : List (Nat × Ent) := (28, funEntL Ss28 true Fs28) :: Es19
theorem Es28_ok : EntsOk Go.Proofs.Try.prog (ofL Es28) := .cons ents28 Es19_ok

/-! ### math/bits.RotateLeft64 -/
noncomputable def bodys33 : Code := (Go.Proofs.Try.f33.body).getD .skip
abbrev Ss33 : FL := ⟨⟨[], [.env 0 (.c (.int .u64)), .env 1 (.c (.int .i64))], []⟩, 2, [(.ret, ⟨[], [.env 0 (.c (.int .u64))], []⟩)], [.tmp 4], false⟩
noncomputable def cs33 : Ctx Go.Proofs.Try.prog := ⟨stab, ofL Es28, stabOk, Es28_ok, sdep, sord⟩
noncomputable def Fs33 : Int × Int → Option ((Int))
  | (a0, a1) =>
    if 0 ≤ (bitsAnd .u64 (IntKind.u64.wrap a1) 63) then
      let x1 : Int := (IntKind.u64.wrap (64 - (bitsAnd .u64 (IntKind.u64.wrap a1) 63)))
      if 0 ≤ x1 then
        let x2 : Int := (bitsOr .u64 (shlI .u64 a0 (bitsAnd .u64 (IntKind.u64.wrap a1) 63)) (shrI .u64 a0 x1))
        some x2
      else none
    else none

noncomputable def anns33 : Ann := .none
theorem eqs33 : ∀ x : Ss33.inT, exec stab (ofL Es28) 17 bodys33 anns33 (finL stab Ss33) (Ss33.inp.enc x) = Fs33 x := by
  rintro ⟨a0, a1⟩
  kernel_rfl
theorem callss33 : CallsL Go.Proofs.Try.prog 33 Ss33 Fs33 := by
  refine fun_callsL (fn := Go.Proofs.Try.f33) (c := bodys33) (ann := anns33) cs33 (by kernel_rfl) (by kernel_rfl) (by kernel_rfl) (by kernel_rfl) (by kernel_rfl) (annOk_of_cuts ?_) eqs33
  intro x hx
  exact absurd hx (by show x ∉ ([] : List (List Nat × LEnt)); simp)

theorem ents33 : EntOk Go.Proofs.Try.prog 33 (funEntL Ss33 true Fs33) := fun_okL (fn := Go.Proofs.Try.f33) (c := bodys33) (by kernel_rfl) (by kernel_rfl) (by kernel_rfl) (by kernel_rfl) callss33
noncomputable def Es33 : List (Nat × Ent) := (33, funEntL Ss33 true Fs33) :: Es28
theorem Es33_ok : EntsOk Go.Proofs.Try.prog (ofL Es33) := .cons ents33 Es28_ok

/-! ### barbican/keccak.Permute -/
noncomputable def bodys29 : Code := (Go.Proofs.Try.f29.body).getD .skip
abbrev Ss29 : FL := ⟨⟨[], [.env 0 (.agg [.ints .u64 25])], []⟩, 1, [(.ret, ⟨[], [.env 0 (.agg [.ints .u64 25])], []⟩)], [.cell 2 41], false⟩
noncomputable def cs29 : Ctx Go.Proofs.Try.prog := ⟨stab, ofL Es33, stabOk, Es33_ok, sdep, sord⟩
abbrev ls29_1 : Lay := ⟨[(1, .ptr 1 0 25), (2, .ptr 2 0 25), (4, .ptr 4 0 5)], [.env 3 (.c (.int .u8)), .env 17 (.c (.int .i64)), .env 19 (.agg [.ints .u64 25]), .env 20 (.c (.int .i64)), .reg 1 (.cells [.ints .u64 25]), .reg 2 (.cells [.ints .u64 25]), .reg 4 (.cells [.ints .u64 5])], [(1, .env 1 0), (2, .env 2 0), (4, .env 4 0)]⟩
abbrev os29_1 : List (AExit × Lay) := [(.exit 2, ⟨[(1, .ptr 1 0 25), (2, .ptr 2 0 25), (4, .ptr 4 0 5)], [.env 3 (.c (.int .u8)), .env 17 (.c (.int .i64)), .reg 1 (.cells [.ints .u64 25]), .reg 2 (.cells [.ints .u64 25]), .reg 4 (.cells [.ints .u64 5])], [(1, .env 1 0), (2, .env 2 0), (4, .env 4 0)]⟩)]
noncomputable def steps29_1 : Int × Int × (Nat → Int) × Int × (Nat → Int) × (Nat → Int) × (Nat → Int) → Option ((Int × Int × (Nat → Int) × Int × (Nat → Int) × (Nat → Int) × (Nat → Int)) ⊕ ((Int × Int × (Nat → Int) × (Nat → Int) × (Nat → Int))))
  | (t3, t17, t19, t20, r1, r2, r4) =>
    if (decide (t20 < 25)) = true then
      if (0 : Int) ≤ t20 ∧ t20 < (25 : Int) then
        if (0 : Int) ≤ (t20.tmod 5) ∧ (t20.tmod 5) < ((5 : Int) : Int) then
          if (0 : Int) ≤ (t20.tmod 5) ∧ (t20.tmod 5) < ((5 : Int) : Int) then
            let f1 : Nat → Int := (upd r4 (t20.tmod 5).toNat (bitsXor .u64 (r4 (t20.tmod 5).toNat) (t19 t20.toNat)))
            some (.inl (t3, t17, t19, (IntKind.i64.wrap (t20 + 1)), r1, r2, f1))
          else none
        else none
      else none
    else
      some (.inr (t3, t17, r1, r2, r4))

noncomputable def anns29_1 : Ann := .none
abbrev ls29_2 : Lay := ⟨[(1, .ptr 1 0 25), (2, .ptr 2 0 25), (4, .ptr 4 0 5)], [.env 3 (.c (.int .u8)), .env 17 (.c (.int .i64)), .env 32 (.c (.int .i64)), .reg 1 (.cells [.ints .u64 25]), .reg 2 (.cells [.ints .u64 25]), .reg 4 (.cells [.ints .u64 5])], [(1, .env 1 0), (2, .env 2 0), (4, .env 4 0)]⟩
abbrev os29_2 : List (AExit × Lay) := [(.exit 4, ⟨[(1, .ptr 1 0 25), (2, .ptr 2 0 25)], [.env 3 (.c (.int .u8)), .env 17 (.c (.int .i64)), .reg 1 (.cells [.ints .u64 25]), .reg 2 (.cells [.ints .u64 25])], [(1, .env 1 0), (2, .env 2 0)]⟩)]
noncomputable def steps29_2 : Int × Int × Int × (Nat → Int) × (Nat → Int) × (Nat → Int) → Option ((Int × Int × Int × (Nat → Int) × (Nat → Int) × (Nat → Int)) ⊕ ((Int × Int × (Nat → Int) × (Nat → Int))))
  | (t3, t17, t32, r1, r2, r4) =>
    if (decide (t32 < 25)) = true then
      if (0 : Int) ≤ t32 ∧ t32 < ((25 : Int) : Int) then
        if (0 : Int) ≤ ((IntKind.i64.wrap (t32 + 4)).tmod 5) ∧ ((IntKind.i64.wrap (t32 + 4)).tmod 5) < ((5 : Int) : Int) then
          if (0 : Int) ≤ ((IntKind.i64.wrap (t32 + 1)).tmod 5) ∧ ((IntKind.i64.wrap (t32 + 1)).tmod 5) < ((5 : Int) : Int) then
            (Fs33 ((r4 ((IntKind.i64.wrap (t32 + 1)).tmod 5).toNat), 1)).bind fun y7 =>
              let x8 : Int := (bitsXor .u64 (r4 ((IntKind.i64.wrap (t32 + 4)).tmod 5).toNat) y7)
              if (0 : Int) ≤ t32 ∧ t32 < ((25 : Int) : Int) then
                some (.inl (t3, t17, (IntKind.i64.wrap (t32 + 1)), (upd r1 t32.toNat (bitsXor .u64 (r1 t32.toNat) x8)), r2, r4))
              else none
          else none
        else none
      else none
    else
      some (.inr (t3, t17, r1, r2))

noncomputable def anns29_2 : Ann := .none
abbrev ls29_3 : Lay := ⟨[(1, .ptr 1 0 25), (2, .ptr 2 0 25)], [.env 3 (.c (.int .u8)), .env 8 (.c (.int .i64)), .env 9 (.c (.int .i64)), .env 10 (.c (.int .u64)), .env 17 (.c (.int .i64)), .env 55 (.c (.int .i64)), .reg 1 (.cells [.ints .u64 25]), .reg 2 (.cells [.ints .u64 25])], [(1, .env 1 0), (2, .env 2 0)]⟩
abbrev os29_3 : List (AExit × Lay) := [(.exit 6, ⟨[(1, .ptr 1 0 25), (2, .ptr 2 0 25)], [.env 3 (.c (.int .u8)), .env 17 (.c (.int .i64)), .reg 1 (.cells [.ints .u64 25]), .reg 2 (.cells [.ints .u64 25])], [(1, .env 1 0), (2, .env 2 0)]⟩)]
noncomputable def steps29_3 : Int × Int × Int × Int × Int × Int × (Nat → Int) × (Nat → Int) → Option ((Int × Int × Int × Int × Int × Int × (Nat → Int) × (Nat → Int)) ⊕ ((Int × Int × (Nat → Int) × (Nat → Int))))
  | (t3, t8, t9, t10, t17, t55, r1, r2) =>
    if (decide (t55 < 24)) = true then
      let x13 : Int := (IntKind.i64.wrap ((IntKind.i64.wrap (2 * t8)) + (IntKind.i64.wrap (3 * t9))))
      let x14 : Int := (IntKind.i64.wrap ((IntKind.i64.wrap (t55 + 1)) * (IntKind.i64.wrap (t55 + 2))))
      (Fs33 (t10, ((IntKind.i64.wrap (x14.tdiv 2)).tmod 64))).bind fun y15 =>
        let x16 : Int := (IntKind.i64.wrap (t9 + (IntKind.i64.wrap (5 * (x13.tmod 5)))))
        let x17 : Int := (IntKind.i64.wrap (t9 + (IntKind.i64.wrap (5 * (x13.tmod 5)))))
        if (0 : Int) ≤ x17 ∧ x17 < ((25 : Int) : Int) then
          if (0 : Int) ≤ x16 ∧ x16 < ((25 : Int) : Int) then
            some (.inl (t3, t9, (x13.tmod 5), (r1 x17.toNat), t17, (IntKind.i64.wrap (t55 + 1)), (upd r1 x16.toNat y15), r2))
          else none
        else none
    else
      some (.inr (t3, t17, r1, r2))

noncomputable def anns29_3 : Ann := .none
abbrev ls29_5 : Lay := ⟨[(1, .ptr 1 0 25), (2, .ptr 2 0 25), (14, .ptr 14 0 5)], [.env 3 (.c (.int .u8)), .env 13 (.c (.int .i64)), .env 17 (.c (.int .i64)), .env 97 (.c (.int .i64)), .reg 1 (.cells [.ints .u64 25]), .reg 2 (.cells [.ints .u64 25]), .reg 14 (.cells [.ints .u64 5])], [(1, .env 1 0), (2, .env 2 0), (14, .env 14 0)]⟩
abbrev os29_5 : List (AExit × Lay) := [(.exit 10, ⟨[(1, .ptr 1 0 25), (2, .ptr 2 0 25)], [.env 3 (.c (.int .u8)), .env 13 (.c (.int .i64)), .env 17 (.c (.int .i64)), .reg 1 (.cells [.ints .u64 25]), .reg 2 (.cells [.ints .u64 25])], [(1, .env 1 0), (2, .env 2 0)]⟩)]
noncomputable def steps29_5 : Int × Int × Int × Int × (Nat → Int) × (Nat → Int) × (Nat → Int) → Option ((Int × Int × Int × Int × (Nat → Int) × (Nat → Int) × (Nat → Int)) ⊕ ((Int × Int × Int × (Nat → Int) × (Nat → Int))))
  | (t3, t13, t17, t97, r1, r2, r14) =>
    if (decide (t97 < 5)) = true then
      if (0 : Int) ≤ t97 ∧ t97 < ((5 : Int) : Int) then
        if (0 : Int) ≤ ((IntKind.i64.wrap (t97 + 1)).tmod 5) ∧ ((IntKind.i64.wrap (t97 + 1)).tmod 5) < ((5 : Int) : Int) then
          let x22 : Int := (notI .u64 (r14 ((IntKind.i64.wrap (t97 + 1)).tmod 5).toNat))
          if (0 : Int) ≤ ((IntKind.i64.wrap (t97 + 2)).tmod 5) ∧ ((IntKind.i64.wrap (t97 + 2)).tmod 5) < ((5 : Int) : Int) then
            let x23 : Int := (bitsAnd .u64 x22 (r14 ((IntKind.i64.wrap (t97 + 2)).tmod 5).toNat))
            if (0 : Int) ≤ (IntKind.i64.wrap (t13 + t97)) ∧ (IntKind.i64.wrap (t13 + t97)) < ((25 : Int) : Int) then
              let f24 : Nat → Int := (upd r1 (IntKind.i64.wrap (t13 + t97)).toNat (bitsXor .u64 (r14 t97.toNat) x23))
              some (.inl (t3, t13, t17, (IntKind.i64.wrap (t97 + 1)), f24, r2, r14))
            else none
          else none
        else none
      else none
    else
      some (.inr (t3, t13, t17, r1, r2))

noncomputable def anns29_5 : Ann := .none
abbrev ls29_4 : Lay := ⟨[(1, .ptr 1 0 25), (2, .ptr 2 0 25)], [.env 3 (.c (.int .u8)), .env 13 (.c (.int .i64)), .env 17 (.c (.int .i64)), .reg 1 (.cells [.ints .u64 25]), .reg 2 (.cells [.ints .u64 25])], [(1, .env 1 0), (2, .env 2 0)]⟩
abbrev os29_4 : List (AExit × Lay) := [(.exit 8, ⟨[(1, .ptr 1 0 25), (2, .ptr 2 0 25)], [.env 3 (.c (.int .u8)), .env 17 (.c (.int .i64)), .reg 1 (.cells [.ints .u64 25]), .reg 2 (.cells [.ints .u64 25])], [(1, .env 1 0), (2, .env 2 0)]⟩)]
noncomputable def steps29_4 : Int × Int × Int × (Nat → Int) × (Nat → Int) → Option ((Int × Int × Int × (Nat → Int) × (Nat → Int)) ⊕ ((Int × Int × (Nat → Int) × (Nat → Int))))
  | (t3, t13, t17, r1, r2) =>
    if (decide (t13 < 25)) = true then
      if (0 : Int) ≤ t13 ∧ t13 ≤ (IntKind.i64.wrap (t13 + 5)) ∧ (IntKind.i64.wrap (t13 + 5)) ≤ ((25 : Int) : Int) then
        if (5 : Int) ≤ ((((IntKind.i64.wrap (t13 + 5)).toNat - t13.toNat) : Nat) : Int) then
          (loopO steps29_5 (t3, t13, t17, 0, r1, r2, (fun j => r1 (t13.toNat + j)))).bind fun (z25, z26, z27, z28, z29) =>
            some (.inl (z25, (IntKind.i64.wrap (z26 + 5)), z27, z28, z29))
        else none
      else none
    else
      some (.inr (t3, t17, r1, r2))

noncomputable def anns29_4 : Ann := (.seq .none (.seq (.seq (.seq .none (.seq .none (.seq (.cut (cutEnt ls29_5 os29_5 (loopO (steps29_5)))) .none))) .none) .none))
abbrev ls29_6 : Lay := ⟨[(1, .ptr 1 0 25), (2, .ptr 2 0 25)], [.env 3 (.c (.int .u8)), .env 17 (.c (.int .i64)), .env 121 (.c (.int .i64)), .reg 1 (.cells [.ints .u64 25]), .reg 2 (.cells [.ints .u64 25])], [(1, .env 1 0), (2, .env 2 0)]⟩
abbrev os29_6 : List (AExit × Lay) := [(.exit 12, ⟨[(1, .ptr 1 0 25), (2, .ptr 2 0 25)], [.env 3 (.c (.int .u8)), .env 17 (.c (.int .i64)), .reg 1 (.cells [.ints .u64 25]), .reg 2 (.cells [.ints .u64 25])], [(1, .env 1 0), (2, .env 2 0)]⟩)]
noncomputable def steps29_6 : Int × Int × Int × (Nat → Int) × (Nat → Int) → Option ((Int × Int × Int × (Nat → Int) × (Nat → Int)) ⊕ ((Int × Int × (Nat → Int) × (Nat → Int))))
  | (t3, t17, t121, r1, r2) =>
    if (decide (t121 < 7)) = true then
      if 0 ≤ t121 then
        if 0 ≤ (IntKind.u64.wrap ((shlI .u64 1 t121) - 1)) then
          let x34 : Int := (shlI .u64 (IntKind.u64.wrap (bitsAnd .u8 t3 1)) (IntKind.u64.wrap ((shlI .u64 1 t121) - 1)))
          let x35 : Int := (bitsXor .u8 (shlI .u8 t3 1) (IntKind.u8.wrap ((shrI .u8 t3 7) * 113)))
          some (.inl (x35, t17, (IntKind.i64.wrap (t121 + 1)), (upd r1 0 (bitsXor .u64 (r1 0) x34)), r2))
        else none
      else none
    else
      some (.inr (t3, t17, r1, r2))

noncomputable def anns29_6 : Ann := .none
abbrev ls29_0 : Lay := ⟨[(1, .ptr 1 0 25), (2, .ptr 2 0 25)], [.env 3 (.c (.int .u8)), .env 17 (.c (.int .i64)), .reg 1 (.cells [.ints .u64 25]), .reg 2 (.cells [.ints .u64 25])], [(1, .env 1 0), (2, .env 2 0)]⟩
abbrev os29_0 : List (AExit × Lay) := [(.exit 0, ⟨[(1, .ptr 1 0 25), (2, .ptr 2 0 25)], [.reg 1 (.cells [.ints .u64 25]), .reg 2 (.cells [.ints .u64 25])], [(1, .env 1 0), (2, .env 2 0)]⟩)]
noncomputable def steps29_0 : Int × Int × (Nat → Int) × (Nat → Int) → Option ((Int × Int × (Nat → Int) × (Nat → Int)) ⊕ (((Nat → Int) × (Nat → Int))))
  | (t3, t17, r1, r2) =>
    if (decide (t17 < 24)) = true then
      (loopO steps29_1 (t3, t17, r1, 0, r1, r2, (fun _ => 0))).bind fun (z2, z3, z4, z5, z6) =>
        (loopO steps29_2 (z2, z3, 0, z4, z5, z6)).bind fun (z9, z10, z11, z12) =>
          (loopO steps29_3 (z9, 1, 0, (z11 1), z10, 0, z11, z12)).bind fun (z18, z19, z20, z21) =>
            (loopO steps29_4 (z18, 0, z19, z20, z21)).bind fun (z30, z31, z32, z33) =>
              (loopO steps29_6 (z30, z31, 0, z32, z33)).bind fun (z36, z37, z38, z39) =>
                some (.inl (z36, (IntKind.i64.wrap (z37 + 1)), z38, z39))
    else
      some (.inr (r1, r2))

noncomputable def anns29_0 : Ann := (.seq .none (.seq .none (.seq (.seq (.seq .none (.seq (.seq .none (.seq (.cut (cutEnt ls29_1 os29_1 (loopO (steps29_1)))) .none)) (.seq (.seq .none (.seq (.cut (cutEnt ls29_2 os29_2 (loopO (steps29_2)))) .none)) (.seq .none (.seq .none (.seq (.seq .none (.seq (.cut (cutEnt ls29_3 os29_3 (loopO (steps29_3)))) .none)) (.seq (.seq .none (.seq (.cut (cutEnt ls29_4 os29_4 (loopO (steps29_4)))) .none)) (.seq .none (.seq (.cut (cutEnt ls29_6 os29_6 (loopO (steps29_6)))) .none))))))))) .none) .none)))
noncomputable def Fs29 : (Nat → Int) → Option (((Nat → Int)))
  | a0 =>
    (loopO steps29_0 (1, 0, a0, (fun _ => 0))).bind fun (z40, z41) =>
      some z40

noncomputable def anns29 : Ann := (.seq .none (.seq .none (.seq (.seq .none (.seq (.cut (cutEnt ls29_0 os29_0 (loopO (steps29_0)))) .none)) .none)))
theorem eqs29_1 : ∀ s : ls29_1.T, exec stab (ofL Es33) 144 (Code.at' [1, 1, 0, 1, 0, 0, 1, 1, 0, 0, 1, 0, 1, 0, 0] bodys29) anns29_1 (fun e st => loopEnd (l := ls29_1) (outs := os29_1) e st) (ls29_1.enc s) = steps29_1 s := by
  rintro ⟨t3, t17, t19, t20, r1, r2, r4⟩
  kernel_rfl
theorem oks29_1 : LOk Go.Proofs.Try.prog 144 (cutEnt ls29_1 os29_1 (loopO steps29_1)) (Code.at' [1, 1, 0, 1, 0, 0, 1, 1, 0, 0, 1, 0, 1, 0] bodys29) := by
  have e : Code.at' [1, 1, 0, 1, 0, 0, 1, 1, 0, 0, 1, 0, 1, 0] bodys29 = .loop (Code.at' [1, 1, 0, 1, 0, 0, 1, 1, 0, 0, 1, 0, 1, 0, 0] bodys29) := by kernel_rfl
  rw [e]
  refine loop_ok cs29 144 rfl rfl (annOk_of_cuts ?_) eqs29_1
  intro x hx
  exact absurd hx (by show x ∉ ([] : List (List Nat × LEnt)); simp)

theorem eqs29_2 : ∀ s : ls29_2.T, exec stab (ofL Es33) 144 (Code.at' [1, 1, 0, 1, 0, 0, 1, 1, 0, 0, 1, 1, 0, 1, 0, 0] bodys29) anns29_2 (fun e st => loopEnd (l := ls29_2) (outs := os29_2) e st) (ls29_2.enc s) = steps29_2 s := by
  rintro ⟨t3, t17, t32, r1, r2, r4⟩
  kernel_rfl
theorem oks29_2 : LOk Go.Proofs.Try.prog 144 (cutEnt ls29_2 os29_2 (loopO steps29_2)) (Code.at' [1, 1, 0, 1, 0, 0, 1, 1, 0, 0, 1, 1, 0, 1, 0] bodys29) := by
  have e : Code.at' [1, 1, 0, 1, 0, 0, 1, 1, 0, 0, 1, 1, 0, 1, 0] bodys29 = .loop (Code.at' [1, 1, 0, 1, 0, 0, 1, 1, 0, 0, 1, 1, 0, 1, 0, 0] bodys29) := by kernel_rfl
  rw [e]
  refine loop_ok cs29 144 rfl rfl (annOk_of_cuts ?_) eqs29_2
  intro x hx
  exact absurd hx (by show x ∉ ([] : List (List Nat × LEnt)); simp)

theorem eqs29_3 : ∀ s : ls29_3.T, exec stab (ofL Es33) 144 (Code.at' [1, 1, 0, 1, 0, 0, 1, 1, 0, 0, 1, 1, 1, 1, 1, 0, 1, 0, 0] bodys29) anns29_3 (fun e st => loopEnd (l := ls29_3) (outs := os29_3) e st) (ls29_3.enc s) = steps29_3 s := by
  rintro ⟨t3, t8, t9, t10, t17, t55, r1, r2⟩
  kernel_rfl
theorem oks29_3 : LOk Go.Proofs.Try.prog 144 (cutEnt ls29_3 os29_3 (loopO steps29_3)) (Code.at' [1, 1, 0, 1, 0, 0, 1, 1, 0, 0, 1, 1, 1, 1, 1, 0, 1, 0] bodys29) := by
  have e : Code.at' [1, 1, 0, 1, 0, 0, 1, 1, 0, 0, 1, 1, 1, 1, 1, 0, 1, 0] bodys29 = .loop (Code.at' [1, 1, 0, 1, 0, 0, 1, 1, 0, 0, 1, 1, 1, 1, 1, 0, 1, 0, 0] bodys29) := by kernel_rfl
  rw [e]
  refine loop_ok cs29 144 rfl rfl (annOk_of_cuts ?_) eqs29_3
  intro x hx
  exact absurd hx (by show x ∉ ([] : List (List Nat × LEnt)); simp)

theorem eqs29_5 : ∀ s : ls29_5.T, exec stab (ofL Es33) 144 (Code.at' [1, 1, 0, 1, 0, 0, 1, 1, 0, 0, 1, 1, 1, 1, 1, 1, 0, 1, 0, 0, 1, 0, 0, 1, 1, 0, 0] bodys29) anns29_5 (fun e st => loopEnd (l := ls29_5) (outs := os29_5) e st) (ls29_5.enc s) = steps29_5 s := by
  rintro ⟨t3, t13, t17, t97, r1, r2, r14⟩
  kernel_rfl
theorem oks29_5 : LOk Go.Proofs.Try.prog 144 (cutEnt ls29_5 os29_5 (loopO steps29_5)) (Code.at' [1, 1, 0, 1, 0, 0, 1, 1, 0, 0, 1, 1, 1, 1, 1, 1, 0, 1, 0, 0, 1, 0, 0, 1, 1, 0] bodys29) := by
  have e : Code.at' [1, 1, 0, 1, 0, 0, 1, 1, 0, 0, 1, 1, 1, 1, 1, 1, 0, 1, 0, 0, 1, 0, 0, 1, 1, 0] bodys29 = .loop (Code.at' [1, 1, 0, 1, 0, 0, 1, 1, 0, 0, 1, 1, 1, 1, 1, 1, 0, 1, 0, 0, 1, 0, 0, 1, 1, 0, 0] bodys29) := by kernel_rfl
  rw [e]
  refine loop_ok cs29 144 rfl rfl (annOk_of_cuts ?_) eqs29_5
  intro x hx
  exact absurd hx (by show x ∉ ([] : List (List Nat × LEnt)); simp)

theorem eqs29_4 : ∀ s : ls29_4.T, exec stab (ofL Es33) 144 (Code.at' [1, 1, 0, 1, 0, 0, 1, 1, 0, 0, 1, 1, 1, 1, 1, 1, 0, 1, 0, 0] bodys29) anns29_4 (fun e st => loopEnd (l := ls29_4) (outs := os29_4) e st) (ls29_4.enc s) = steps29_4 s := by
  rintro ⟨t3, t13, t17, r1, r2⟩
  kernel_rfl
theorem oks29_4 : LOk Go.Proofs.Try.prog 144 (cutEnt ls29_4 os29_4 (loopO steps29_4)) (Code.at' [1, 1, 0, 1, 0, 0, 1, 1, 0, 0, 1, 1, 1, 1, 1, 1, 0, 1, 0] bodys29) := by
  have e : Code.at' [1, 1, 0, 1, 0, 0, 1, 1, 0, 0, 1, 1, 1, 1, 1, 1, 0, 1, 0] bodys29 = .loop (Code.at' [1, 1, 0, 1, 0, 0, 1, 1, 0, 0, 1, 1, 1, 1, 1, 1, 0, 1, 0, 0] bodys29) := by kernel_rfl
  rw [e]
  refine loop_ok cs29 144 rfl rfl (annOk_of_cuts ?_) eqs29_4
  have hc : Ann.cuts anns29_4 = [([1, 0, 0, 1, 1, 0], (cutEnt ls29_5 os29_5 (loopO (steps29_5))))] := by kernel_rfl
  rw [hc]
  intro x hx
  simp only [List.mem_cons, List.not_mem_nil, or_false] at hx
  rcases hx with rfl
  · have e : Code.at' [1, 0, 0, 1, 1, 0] (Code.at' [1, 1, 0, 1, 0, 0, 1, 1, 0, 0, 1, 1, 1, 1, 1, 1, 0, 1, 0, 0] bodys29) = Code.at' [1, 1, 0, 1, 0, 0, 1, 1, 0, 0, 1, 1, 1, 1, 1, 1, 0, 1, 0, 0, 1, 0, 0, 1, 1, 0] bodys29 := by kernel_rfl
    rw [e]; exact oks29_5

theorem eqs29_6 : ∀ s : ls29_6.T, exec stab (ofL Es33) 144 (Code.at' [1, 1, 0, 1, 0, 0, 1, 1, 0, 0, 1, 1, 1, 1, 1, 1, 1, 1, 0, 0] bodys29) anns29_6 (fun e st => loopEnd (l := ls29_6) (outs := os29_6) e st) (ls29_6.enc s) = steps29_6 s := by
  rintro ⟨t3, t17, t121, r1, r2⟩
  kernel_rfl
theorem oks29_6 : LOk Go.Proofs.Try.prog 144 (cutEnt ls29_6 os29_6 (loopO steps29_6)) (Code.at' [1, 1, 0, 1, 0, 0, 1, 1, 0, 0, 1, 1, 1, 1, 1, 1, 1, 1, 0] bodys29) := by
  have e : Code.at' [1, 1, 0, 1, 0, 0, 1, 1, 0, 0, 1, 1, 1, 1, 1, 1, 1, 1, 0] bodys29 = .loop (Code.at' [1, 1, 0, 1, 0, 0, 1, 1, 0, 0, 1, 1, 1, 1, 1, 1, 1, 1, 0, 0] bodys29) := by kernel_rfl
  rw [e]
  refine loop_ok cs29 144 rfl rfl (annOk_of_cuts ?_) eqs29_6
  intro x hx
  exact absurd hx (by show x ∉ ([] : List (List Nat × LEnt)); simp)

theorem eqs29_0 : ∀ s : ls29_0.T, exec stab (ofL Es33) 144 (Code.at' [1, 1, 0, 1, 0, 0] bodys29) anns29_0 (fun e st => loopEnd (l := ls29_0) (outs := os29_0) e st) (ls29_0.enc s) = steps29_0 s := by
  rintro ⟨t3, t17, r1, r2⟩
  kernel_rfl
theorem oks29_0 : LOk Go.Proofs.Try.prog 144 (cutEnt ls29_0 os29_0 (loopO steps29_0)) (Code.at' [1, 1, 0, 1, 0] bodys29) := by
  have e : Code.at' [1, 1, 0, 1, 0] bodys29 = .loop (Code.at' [1, 1, 0, 1, 0, 0] bodys29) := by kernel_rfl
  rw [e]
  refine loop_ok cs29 144 rfl rfl (annOk_of_cuts ?_) eqs29_0
  have hc : Ann.cuts anns29_0 = [([1, 1, 0, 0, 1, 0, 1, 0], (cutEnt ls29_1 os29_1 (loopO (steps29_1)))), ([1, 1, 0, 0, 1, 1, 0, 1, 0], (cutEnt ls29_2 os29_2 (loopO (steps29_2)))), ([1, 1, 0, 0, 1, 1, 1, 1, 1, 0, 1, 0], (cutEnt ls29_3 os29_3 (loopO (steps29_3)))), ([1, 1, 0, 0, 1, 1, 1, 1, 1, 1, 0, 1, 0], (cutEnt ls29_4 os29_4 (loopO (steps29_4)))), ([1, 1, 0, 0, 1, 1, 1, 1, 1, 1, 1, 1, 0], (cutEnt ls29_6 os29_6 (loopO (steps29_6))))] := by kernel_rfl
  rw [hc]
  intro x hx
  simp only [List.mem_cons, List.not_mem_nil, or_false] at hx
  rcases hx with rfl | rfl | rfl | rfl | rfl
  · have e : Code.at' [1, 1, 0, 0, 1, 0, 1, 0] (Code.at' [1, 1, 0, 1, 0, 0] bodys29) = Code.at' [1, 1, 0, 1, 0, 0, 1, 1, 0, 0, 1, 0, 1, 0] bodys29 := by kernel_rfl
    rw [e]; exact oks29_1
  · have e : Code.at' [1, 1, 0, 0, 1, 1, 0, 1, 0] (Code.at' [1, 1, 0, 1, 0, 0] bodys29) = Code.at' [1, 1, 0, 1, 0, 0, 1, 1, 0, 0, 1, 1, 0, 1, 0] bodys29 := by kernel_rfl
    rw [e]; exact oks29_2
  · have e : Code.at' [1, 1, 0, 0, 1, 1, 1, 1, 1, 0, 1, 0] (Code.at' [1, 1, 0, 1, 0, 0] bodys29) = Code.at' [1, 1, 0, 1, 0, 0, 1, 1, 0, 0, 1, 1, 1, 1, 1, 0, 1, 0] bodys29 := by kernel_rfl
    rw [e]; exact oks29_3
  · have e : Code.at' [1, 1, 0, 0, 1, 1, 1, 1, 1, 1, 0, 1, 0] (Code.at' [1, 1, 0, 1, 0, 0] bodys29) = Code.at' [1, 1, 0, 1, 0, 0, 1, 1, 0, 0, 1, 1, 1, 1, 1, 1, 0, 1, 0] bodys29 := by kernel_rfl
    rw [e]; exact oks29_4
  · have e : Code.at' [1, 1, 0, 0, 1, 1, 1, 1, 1, 1, 1, 1, 0] (Code.at' [1, 1, 0, 1, 0, 0] bodys29) = Code.at' [1, 1, 0, 1, 0, 0, 1, 1, 0, 0, 1, 1, 1, 1, 1, 1, 1, 1, 0] bodys29 := by kernel_rfl
    rw [e]; exact oks29_6

theorem eqs29 : ∀ x : Ss29.inT, exec stab (ofL Es33) 144 bodys29 anns29 (finL stab Ss29) (Ss29.inp.enc x) = Fs29 x := by
  intro x
  kernel_rfl
theorem callss29 : CallsL Go.Proofs.Try.prog 29 Ss29 Fs29 := by
  refine fun_callsL (fn := Go.Proofs.Try.f29) (c := bodys29) (ann := anns29) cs29 (by kernel_rfl) (by kernel_rfl) (by kernel_rfl) (by kernel_rfl) (by kernel_rfl) (annOk_of_cuts ?_) eqs29
  have hc : Ann.cuts anns29 = [([1, 1, 0, 1, 0], (cutEnt ls29_0 os29_0 (loopO (steps29_0))))] := by kernel_rfl
  rw [hc]
  intro x hx
  simp only [List.mem_cons, List.not_mem_nil, or_false] at hx
  rcases hx with rfl
  · have e : Code.at' [1, 1, 0, 1, 0] bodys29 = Code.at' [1, 1, 0, 1, 0] bodys29 := by kernel_rfl
    rw [e]; exact oks29_0

theorem ents29 : EntOk Go.Proofs.Try.prog 29 (funEntL Ss29 true Fs29) := fun_okL (fn := Go.Proofs.Try.f29) (c := bodys29) (by kernel_rfl) (by kernel_rfl) (by kernel_rfl) (by kernel_rfl) callss29
noncomputable def Es29 : List (Nat × Ent) := (29, funEntL Ss29 true Fs29) :: Es33
theorem Es29_ok : EntsOk Go.Proofs.Try.prog (ofL Es29) := .cons ents29 Es33_ok

/-! ### (*barbican/keccak.Sponge).Write -/
noncomputable def bodys20 : Code := (Go.Proofs.Try.f20.body).getD .skip
abbrev Ss20 : FL := ⟨⟨[(0, .ptr 1000000 0 29)], [.reg 1000000 (.cells [.int .i64, .ints .u64 25, .int .i64, .bool, .int .i64]), .env 1 (.c (.fz (.int .u8)))], [(1000000, .env 0 0)]⟩, 2, [(.ret, ⟨[], [.env 0 (.c (.int .i64)), .reg 1000000 (.cells [.int .i64, .ints .u64 25, .int .i64, .bool, .int .i64])], []⟩)], [.tmp 4], false⟩
noncomputable def cs20 : Ctx Go.Proofs.Try.prog := ⟨stab, ofL Es29, stabOk, Es29_ok, sdep, sord⟩
abbrev ls20_0 : Lay := ⟨[(0, .ptr 1000000 0 29)], [.env 15 (.c (.fz (.int .u8))), .env 16 (.c (.int .i64)), .env 17 (.c (.int .i64)), .reg 1000000 (.cells [.int .i64, .ints .u64 25, .int .i64, .bool, .int .i64])], []⟩
abbrev os20_0 : List (AExit × Lay) := [(.exit 1, ⟨[], [.reg 1000000 (.cells [.int .i64, .ints .u64 25, .int .i64, .bool, .int .i64])], []⟩)]
noncomputable def steps20_0 : (List Int) × Int × Int × (Int × (Nat → Int) × Int × Bool × Int) → Option (((List Int) × Int × Int × (Int × (Nat → Int) × Int × Bool × Int)) ⊕ ((Int × (Nat → Int) × Int × Bool × Int)))
  | (t15, t16, t17, r1000000) =>
    if (decide (t17 < t16)) = true then
      if (0 : Int) ≤ t17 ∧ t17 < (t15.length : Int) then
        (Fs28 ((r1000000.1, r1000000.2.1, r1000000.2.2.1, r1000000.2.2.2.1, r1000000.2.2.2.2), r1000000.2.2.1, (t15.getD t17.toNat 0))).bind fun y1 =>
          if 0 ≤ y1.1 ∧ y1.1 < (sstr1.size : Int) then
            let x2 : Bool := ((IntKind.i64.wrap (y1.2.2.1 + 1)) == (IntKind.i64.wrap (strAt sstr1 y1.1)))
            if x2 = true then
              (Fs29 y1.2.1).bind fun y3 =>
                some (.inl (t15, t16, (IntKind.i64.wrap (t17 + 1)), (y1.1, y3, 0, y1.2.2.2.1, y1.2.2.2.2)))
            else
              some (.inl (t15, t16, (IntKind.i64.wrap (t17 + 1)), (y1.1, y1.2.1, (IntKind.i64.wrap (y1.2.2.1 + 1)), y1.2.2.2.1, y1.2.2.2.2)))
          else none
      else none
    else
      some (.inr (r1000000.1, r1000000.2.1, r1000000.2.2.1, r1000000.2.2.2.1, r1000000.2.2.2.2))

noncomputable def anns20_0 : Ann := .none
noncomputable def Fs20 : (Int × (Nat → Int) × Int × Bool × Int) × (List Int) → Option ((Int × (Int × (Nat → Int) × Int × Bool × Int)))
  | (io, a1) =>
    if io.2.2.2.1 = true then
      some (32, (io.1, io.2.1, io.2.2.1, io.2.2.2.1, io.2.2.2.2))
    else
      (loopO steps20_0 (a1, (a1.length : Int), 0, (io.1, io.2.1, io.2.2.1, io.2.2.2.1, io.2.2.2.2))).bind fun z4 =>
        some (0, (z4.1, z4.2.1, z4.2.2.1, z4.2.2.2.1, z4.2.2.2.2))

noncomputable def anns20 : Ann := (.seq .none (.seq .none (.seq (.seq .none (.seq (.cut (cutEnt ls20_0 os20_0 (loopO (steps20_0)))) .none)) .none)))
theorem eqs20_0 : ∀ s : ls20_0.T, exec stab (ofL Es29) 58 (Code.at' [1, 1, 0, 1, 0, 0] bodys20) anns20_0 (fun e st => loopEnd (l := ls20_0) (outs := os20_0) e st) (ls20_0.enc s) = steps20_0 s := by
  rintro ⟨t15, t16, t17, r1000000⟩
  kernel_rfl
theorem oks20_0 : LOk Go.Proofs.Try.prog 58 (cutEnt ls20_0 os20_0 (loopO steps20_0)) (Code.at' [1, 1, 0, 1, 0] bodys20) := by
  have e : Code.at' [1, 1, 0, 1, 0] bodys20 = .loop (Code.at' [1, 1, 0, 1, 0, 0] bodys20) := by kernel_rfl
  rw [e]
  refine loop_ok cs20 58 rfl rfl (annOk_of_cuts ?_) eqs20_0
  intro x hx
  exact absurd hx (by show x ∉ ([] : List (List Nat × LEnt)); simp)

theorem eqs20 : ∀ x : Ss20.inT, exec stab (ofL Es29) 58 bodys20 anns20 (finL stab Ss20) (Ss20.inp.enc x) = Fs20 x := by
  rintro ⟨io, a1⟩
  kernel_rfl
theorem callss20 : CallsL Go.Proofs.Try.prog 20 Ss20 Fs20 := by
  refine fun_callsL (fn := Go.Proofs.Try.f20) (c := bodys20) (ann := anns20) cs20 (by kernel_rfl) (by kernel_rfl) (by kernel_rfl) (by kernel_rfl) (by kernel_rfl) (annOk_of_cuts ?_) eqs20
  have hc : Ann.cuts anns20 = [([1, 1, 0, 1, 0], (cutEnt ls20_0 os20_0 (loopO (steps20_0))))] := by kernel_rfl
  rw [hc]
  intro x hx
  simp only [List.mem_cons, List.not_mem_nil, or_false] at hx
  rcases hx with rfl
  · have e : Code.at' [1, 1, 0, 1, 0] bodys20 = Code.at' [1, 1, 0, 1, 0] bodys20 := by kernel_rfl
    rw [e]; exact oks20_0

theorem ents20 : EntOk Go.Proofs.Try.prog 20 (funEntL Ss20 true Fs20) := fun_okL (fn := Go.Proofs.Try.f20) (c := bodys20) (by kernel_rfl) (by kernel_rfl) (by kernel_rfl) (by kernel_rfl) callss20
noncomputable def Es20 : List (Nat × Ent) := (20, funEntL Ss20 true Fs20) :: Es29
theorem Es20_ok : EntsOk Go.Proofs.Try.prog (ofL Es20) := .cons ents20 Es29_ok

/-! ### (*barbican/keccak.Sponge).Read -/
noncomputable def bodys22 : Code := (Go.Proofs.Try.f22.body).getD .skip
abbrev Ss22 : FL := ⟨⟨[(0, .ptr 1000000 0 29)], [.reg 1000000 (.cells [.int .i64, .ints .u64 25, .int .i64, .bool, .int .i64]), .env 1 (.c (.int .i64))], [(1000000, .env 0 0)]⟩, 2, [(.ret, ⟨[(0, .full 1)], [.reg 1 (.row 5 .u8), .env 1 (.c (.int .i64)), .reg 1000000 (.cells [.int .i64, .ints .u64 25, .int .i64, .bool, .int .i64])], [(1, .env 0 0)]⟩)], [.tmp 4, .tmp 5], false⟩
noncomputable def cs22 : Ctx Go.Proofs.Try.prog := ⟨stab, ofL Es20, stabOk, Es20_ok, sdep, sord⟩
abbrev ls22_0 : Lay := ⟨[(0, .ptr 1000000 0 29), (7, .full 75)], [.env 1 (.c (.int .i64)), .env 6 (.c (.int .i64)), .env 77 (.c (.int .i64)), .env 78 (.c (.int .i64)), .reg 1000000 (.cells [.int .i64, .ints .u64 25, .int .i64, .bool, .int .i64]), .reg 75 (.row 5 .u8)], [(75, .env 7 0)]⟩
abbrev os22_0 : List (AExit × Lay) := [(.exit 1, ⟨[(0, .ptr 1000000 0 29), (7, .full 75)], [.env 1 (.c (.int .i64)), .reg 1000000 (.cells [.int .i64, .ints .u64 25, .int .i64, .bool, .int .i64]), .reg 75 (.row 5 .u8)], [(75, .env 7 0)]⟩)]
noncomputable def steps22_0 : Int × Int × Int × Int × (Int × (Nat → Int) × Int × Bool × Int) × List Int → Option ((Int × Int × Int × Int × (Int × (Nat → Int) × Int × Bool × Int) × List Int) ⊕ ((Int × (Int × (Nat → Int) × Int × Bool × Int) × List Int)))
  | (t1, t6, t77, t78, r1000000, r75) =>
    if (decide (t78 < t77)) = true then
      if (r1000000.2.2.1 == t6) = true then
        (Fs29 r1000000.2.1).bind fun y5 =>
          if (0 : Int) ≤ (IntKind.i64.wrap ((0 : Int).tdiv 8)) ∧ (IntKind.i64.wrap ((0 : Int).tdiv 8)) < ((25 : Int) : Int) then
            if 0 ≤ (IntKind.i64.wrap (8 * ((0 : Int).tmod 8))) then
              let x6 : Int := (shrI .u64 (y5 (IntKind.i64.wrap ((0 : Int).tdiv 8)).toNat) (IntKind.i64.wrap (8 * ((0 : Int).tmod 8))))
              if (0 : Int) ≤ t78 ∧ t78 < (r75.length : Int) then
                some (.inl (t1, t6, t77, (IntKind.i64.wrap (t78 + 1)), (r1000000.1, y5, 1, r1000000.2.2.2.1, r1000000.2.2.2.2), (r75.set t78.toNat (IntKind.u8.wrap x6))))
              else none
            else none
          else none
      else
        if (0 : Int) ≤ (IntKind.i64.wrap (r1000000.2.2.1.tdiv 8)) ∧ (IntKind.i64.wrap (r1000000.2.2.1.tdiv 8)) < ((25 : Int) : Int) then
          let x7 : Int := (r1000000.2.1 (IntKind.i64.wrap (r1000000.2.2.1.tdiv 8)).toNat)
          if 0 ≤ (IntKind.i64.wrap (8 * (r1000000.2.2.1.tmod 8))) then
            let x8 : Int := (shrI .u64 x7 (IntKind.i64.wrap (8 * (r1000000.2.2.1.tmod 8))))
            if (0 : Int) ≤ t78 ∧ t78 < (r75.length : Int) then
              some (.inl (t1, t6, t77, (IntKind.i64.wrap (t78 + 1)), (r1000000.1, r1000000.2.1, (IntKind.i64.wrap (r1000000.2.2.1 + 1)), r1000000.2.2.2.1, r1000000.2.2.2.2), (r75.set t78.toNat (IntKind.u8.wrap x8))))
            else none
          else none
        else none
    else
      some (.inr (t1, (r1000000.1, r1000000.2.1, r1000000.2.2.1, r1000000.2.2.2.1, r1000000.2.2.2.2), r75))

noncomputable def anns22_0 : Ann := .none
noncomputable def Fs22 : (Int × (Nat → Int) × Int × Bool × Int) × Int → Option ((List Int × Int × (Int × (Nat → Int) × Int × Bool × Int)))
  | (io, a1) =>
    if (decide (a1 < 0)) = false then
      if (decide (a1 > 65536)) = true then
        some (([] : List Int), 1, (io.1, io.2.1, io.2.2.1, io.2.2.2.1, io.2.2.2.2))
      else
        if (decide (io.2.2.2.2 ≥ 0)) = true then
          if (decide (a1 > io.2.2.2.2)) = true then
            some (([] : List Int), 33, (io.1, io.2.1, io.2.2.1, io.2.2.2.1, io.2.2.2.2))
          else
            if 0 ≤ io.1 ∧ io.1 < (sstr1.size : Int) then
              if (!io.2.2.2.1) = true then
                if 0 ≤ io.1 ∧ io.1 < (sstr2.size : Int) then
                  (Fs28 ((io.1, io.2.1, io.2.2.1, io.2.2.2.1, io.2.2.2.2), io.2.2.1, (strAt sstr2 io.1))).bind fun y1 =>
                    let x2 : Int := (IntKind.i64.wrap ((IntKind.i64.wrap (strAt sstr1 io.1)) - 1))
                    (Fs28 ((y1.1, y1.2.1, y1.2.2.1, y1.2.2.2.1, y1.2.2.2.2), x2, 128)).bind fun y3 =>
                      (Fs29 y3.2.1).bind fun y4 =>
                        if 0 ≤ a1 ∧ a1 ≤ a1 ∧ okBytes a1.toNat 1 then
                          (loopO steps22_0 (a1, (IntKind.i64.wrap (strAt sstr1 io.1)), ((List.replicate a1.toNat (0 : Int)).length : Int), 0, (y3.1, y4, 0, true, y3.2.2.2.2), (List.replicate a1.toNat (0 : Int)))).bind fun (z9, z10, z11) =>
                            if (decide (z10.2.2.2.2 ≥ 0)) = true then
                              some (z11, 0, (z10.1, z10.2.1, z10.2.2.1, z10.2.2.2.1, (IntKind.i64.wrap (z10.2.2.2.2 - z9))))
                            else
                              some (z11, 0, (z10.1, z10.2.1, z10.2.2.1, z10.2.2.2.1, z10.2.2.2.2))
                        else none
                else none
              else
                if 0 ≤ a1 ∧ a1 ≤ a1 ∧ okBytes a1.toNat 1 then
                  (loopO steps22_0 (a1, (IntKind.i64.wrap (strAt sstr1 io.1)), ((List.replicate a1.toNat (0 : Int)).length : Int), 0, (io.1, io.2.1, io.2.2.1, io.2.2.2.1, io.2.2.2.2), (List.replicate a1.toNat (0 : Int)))).bind fun (z12, z13, z14) =>
                    if (decide (z13.2.2.2.2 ≥ 0)) = true then
                      some (z14, 0, (z13.1, z13.2.1, z13.2.2.1, z13.2.2.2.1, (IntKind.i64.wrap (z13.2.2.2.2 - z12))))
                    else
                      some (z14, 0, (z13.1, z13.2.1, z13.2.2.1, z13.2.2.2.1, z13.2.2.2.2))
                else none
            else none
        else
          if 0 ≤ io.1 ∧ io.1 < (sstr1.size : Int) then
            if (!io.2.2.2.1) = true then
              if 0 ≤ io.1 ∧ io.1 < (sstr2.size : Int) then
                (Fs28 ((io.1, io.2.1, io.2.2.1, io.2.2.2.1, io.2.2.2.2), io.2.2.1, (strAt sstr2 io.1))).bind fun y15 =>
                  let x16 : Int := (IntKind.i64.wrap ((IntKind.i64.wrap (strAt sstr1 io.1)) - 1))
                  (Fs28 ((y15.1, y15.2.1, y15.2.2.1, y15.2.2.2.1, y15.2.2.2.2), x16, 128)).bind fun y17 =>
                    (Fs29 y17.2.1).bind fun y18 =>
                      if 0 ≤ a1 ∧ a1 ≤ a1 ∧ okBytes a1.toNat 1 then
                        (loopO steps22_0 (a1, (IntKind.i64.wrap (strAt sstr1 io.1)), ((List.replicate a1.toNat (0 : Int)).length : Int), 0, (y17.1, y18, 0, true, y17.2.2.2.2), (List.replicate a1.toNat (0 : Int)))).bind fun (z19, z20, z21) =>
                          if (decide (z20.2.2.2.2 ≥ 0)) = true then
                            some (z21, 0, (z20.1, z20.2.1, z20.2.2.1, z20.2.2.2.1, (IntKind.i64.wrap (z20.2.2.2.2 - z19))))
                          else
                            some (z21, 0, (z20.1, z20.2.1, z20.2.2.1, z20.2.2.2.1, z20.2.2.2.2))
                      else none
              else none
            else
              if 0 ≤ a1 ∧ a1 ≤ a1 ∧ okBytes a1.toNat 1 then
                (loopO steps22_0 (a1, (IntKind.i64.wrap (strAt sstr1 io.1)), ((List.replicate a1.toNat (0 : Int)).length : Int), 0, (io.1, io.2.1, io.2.2.1, io.2.2.2.1, io.2.2.2.2), (List.replicate a1.toNat (0 : Int)))).bind fun (z22, z23, z24) =>
                  if (decide (z23.2.2.2.2 ≥ 0)) = true then
                    some (z24, 0, (z23.1, z23.2.1, z23.2.2.1, z23.2.2.2.1, (IntKind.i64.wrap (z23.2.2.2.2 - z22))))
                  else
                    some (z24, 0, (z23.1, z23.2.1, z23.2.2.1, z23.2.2.2.1, z23.2.2.2.2))
              else none
          else none
    else
      some (([] : List Int), 1, (io.1, io.2.1, io.2.2.1, io.2.2.2.1, io.2.2.2.2))

noncomputable def anns22 : Ann := (.seq .none (.seq .none (.seq .none (.seq .none (.seq .none (.seq (.seq .none (.seq (.cut (cutEnt ls22_0 os22_0 (loopO (steps22_0)))) .none)) .none))))))
theorem eqs22_0 : ∀ s : ls22_0.T, exec stab (ofL Es20) 141 (Code.at' [1, 1, 1, 1, 1, 0, 1, 0, 0] bodys22) anns22_0 (fun e st => loopEnd (l := ls22_0) (outs := os22_0) e st) (ls22_0.enc s) = steps22_0 s := by
  rintro ⟨t1, t6, t77, t78, r1000000, r75⟩
  kernel_rfl
theorem oks22_0 : LOk Go.Proofs.Try.prog 141 (cutEnt ls22_0 os22_0 (loopO steps22_0)) (Code.at' [1, 1, 1, 1, 1, 0, 1, 0] bodys22) := by
  have e : Code.at' [1, 1, 1, 1, 1, 0, 1, 0] bodys22 = .loop (Code.at' [1, 1, 1, 1, 1, 0, 1, 0, 0] bodys22) := by kernel_rfl
  rw [e]
  refine loop_ok cs22 141 rfl rfl (annOk_of_cuts ?_) eqs22_0
  intro x hx
  exact absurd hx (by show x ∉ ([] : List (List Nat × LEnt)); simp)

theorem eqs22 : ∀ x : Ss22.inT, exec stab (ofL Es20) 141 bodys22 anns22 (finL stab Ss22) (Ss22.inp.enc x) = Fs22 x := by
  rintro ⟨io, a1⟩
  kernel_rfl
theorem callss22 : CallsL Go.Proofs.Try.prog 22 Ss22 Fs22 := by
  refine fun_callsL (fn := Go.Proofs.Try.f22) (c := bodys22) (ann := anns22) cs22 (by kernel_rfl) (by kernel_rfl) (by kernel_rfl) (by kernel_rfl) (by kernel_rfl) (annOk_of_cuts ?_) eqs22
  have hc : Ann.cuts anns22 = [([1, 1, 1, 1, 1, 0, 1, 0], (cutEnt ls22_0 os22_0 (loopO (steps22_0))))] := by kernel_rfl
  rw [hc]
  intro x hx
  simp only [List.mem_cons, List.not_mem_nil, or_false] at hx
  rcases hx with rfl
  · have e : Code.at' [1, 1, 1, 1, 1, 0, 1, 0] bodys22 = Code.at' [1, 1, 1, 1, 1, 0, 1, 0] bodys22 := by kernel_rfl
    rw [e]; exact oks22_0

theorem ents22 : EntOk Go.Proofs.Try.prog 22 (funEntL Ss22 true Fs22) := fun_okL (fn := Go.Proofs.Try.f22) (c := bodys22) (by kernel_rfl) (by kernel_rfl) (by kernel_rfl) (by kernel_rfl) callss22
noncomputable def Es22 : List (Nat × Ent) := (22, funEntL Ss22 true Fs22) :: Es20
theorem Es22_ok : EntsOk Go.Proofs.Try.prog (ofL Es22) := .cons ents22 Es20_ok

/-! ### barbican/pack.drawn$1 -/
noncomputable def bodys21 : Code := (Go.Proofs.Try.f21.body).getD .skip
abbrev Ss21 : FL := ⟨⟨[(0, .ptr 1000000 0 1), (1, .ptr 1000001 0 1), (2, .ptr 1000002 0 1)], [.reg 1000000 (.cells [.int .i64]), .reg 1000001 (.cells [.fz (.int .u8)]), .reg 1000002 (.cells [.ptr 1000003 0 29]), .reg 1000003 (.cells [.int .i64, .ints .u64 25, .int .i64, .bool, .int .i64])], [(1000000, .env 0 0), (1000001, .env 1 0), (1000002, .env 2 0), (1000003, .reg 1000002 0)]⟩, 3, [(.ret, ⟨[], [.env 0 (.c (.int .u8)), .env 1 (.c (.bool)), .reg 1000000 (.cells [.int .i64]), .reg 1000001 (.cells [.fz (.int .u8)]), .reg 1000002 (.cells [.ptr 1 0 29]), .reg 1 (.cells [.int .i64, .ints .u64 25, .int .i64, .bool, .int .i64])], [(1, .reg 1000002 0)]⟩)], [.tmp 3, .tmp 4], true⟩
noncomputable def cs21 : Ctx Go.Proofs.Try.prog := ⟨stab, ofL Es22, stabOk, Es22_ok, sdep, sord⟩
noncomputable def Fs21 : Int × (List Int) × Unit × (Int × (Nat → Int) × Int × Bool × Int) → Option ((Int × Bool × Int × (List Int) × Unit × (Int × (Nat → Int) × Int × Bool × Int)))
  | (io, io1, io2, io3) =>
    if (io == 0) = true then
      some (0, false, io, io1, (), (io3.1, io3.2.1, io3.2.2.1, io3.2.2.2.1, io3.2.2.2.2))
    else
      if ((io1.length : Int) == 0) = true then
        (Fs22 ((io3.1, io3.2.1, io3.2.2.1, io3.2.2.2.1, io3.2.2.2.2), 168)).bind fun (y1, y2, y3) =>
          if (0 : Int) ≤ (0 : Int) ∧ (0 : Int) < (y1.length : Int) then
            if (0 : Int) ≤ (1 : Int) ∧ (1 : Int) ≤ (y1.length : Int) then
              some ((y1.getD 0 0), true, (IntKind.i64.wrap (io - 1)), ((y1.drop 1).take (y1.length - 1)), (), (y3.1, y3.2.1, y3.2.2.1, y3.2.2.2.1, y3.2.2.2.2))
            else none
          else none
      else
        if (0 : Int) ≤ (0 : Int) ∧ (0 : Int) < (io1.length : Int) then
          if (0 : Int) ≤ (1 : Int) ∧ (1 : Int) ≤ (io1.length : Int) then
            some ((io1.getD 0 0), true, (IntKind.i64.wrap (io - 1)), (io1.drop 1), (), (io3.1, io3.2.1, io3.2.2.1, io3.2.2.2.1, io3.2.2.2.2))
          else none
        else none

noncomputable def anns21 : Ann := .none
theorem eqs21 : ∀ x : Ss21.inT, exec stab (ofL Es22) 24 bodys21 anns21 (finL stab Ss21) (Ss21.inp.enc x) = Fs21 x := by
  rintro ⟨io, io1, io2, io3⟩
  kernel_rfl
theorem callss21 : CallsL Go.Proofs.Try.prog 21 Ss21 Fs21 := by
  refine fun_callsL (fn := Go.Proofs.Try.f21) (c := bodys21) (ann := anns21) cs21 (by kernel_rfl) (by kernel_rfl) (by kernel_rfl) (by kernel_rfl) (by kernel_rfl) (annOk_of_cuts ?_) eqs21
  intro x hx
  exact absurd hx (by show x ∉ ([] : List (List Nat × LEnt)); simp)

theorem ents21 : EntOk Go.Proofs.Try.prog 21 (funEntL Ss21 true Fs21) := fun_okL (fn := Go.Proofs.Try.f21) (c := bodys21) (by kernel_rfl) (by kernel_rfl) (by kernel_rfl) (by kernel_rfl) callss21
noncomputable def Es21 : List (Nat × Ent) := (21, funEntL Ss21 true Fs21) :: Es22
theorem Es21_ok : EntsOk Go.Proofs.Try.prog (ofL Es21) := .cons ents21 Es22_ok

/-! ### barbican/pack.drawn -/
noncomputable def bodys13 : Code := (Go.Proofs.Try.f13.body).getD .skip
abbrev Ss13 : FL := ⟨⟨[], [.env 0 (.c (.int .i64)), .env 1 (.c (.fz (.int .u8))), .env 2 (.c (.int .i64))], []⟩, 3, [(.ret, ⟨[(0, .clo 21 [5, 9, 7])], [.reg 5 (.cells [.int .i64]), .reg 9 (.cells [.nils]), .reg 7 (.cells [.ptr 1 0 29]), .reg 1 (.cells [.int .i64, .ints .u64 25, .int .i64, .bool, .int .i64])], [(1, .reg 7 0)]⟩)], [.tmp 6], false⟩
noncomputable def cs13 : Ctx Go.Proofs.Try.prog := ⟨stab, ofL Es21, stabOk, Es21_ok, sdep, sord⟩
noncomputable def Fs13 : Int × (List Int) × Int → Option ((Int × Unit × Unit × (Int × (Nat → Int) × Int × Bool × Int)))
  | (a0, a1, a2) =>
    (Fs19 a0).bind fun
      | (.inl (y1, y2)) =>
        (Fs20 ((y1.1, y1.2.1, y1.2.2.1, y1.2.2.2.1, y1.2.2.2.2), a1)).bind fun (y3, y4) =>
          some (a2, (), (), (y4.1, y4.2.1, y4.2.2.1, y4.2.2.2.1, y4.2.2.2.2))
      | (.inr y5) =>
        none

noncomputable def anns13 : Ann := .none
theorem eqs13 : ∀ x : Ss13.inT, exec stab (ofL Es21) 19 bodys13 anns13 (finL stab Ss13) (Ss13.inp.enc x) = Fs13 x := by
  rintro ⟨a0, a1, a2⟩
  kernel_rfl
theorem callss13 : CallsL Go.Proofs.Try.prog 13 Ss13 Fs13 := by
  refine fun_callsL (fn := Go.Proofs.Try.f13) (c := bodys13) (ann := anns13) cs13 (by kernel_rfl) (by kernel_rfl) (by kernel_rfl) (by kernel_rfl) (by kernel_rfl) (annOk_of_cuts ?_) eqs13
  intro x hx
  exact absurd hx (by show x ∉ ([] : List (List Nat × LEnt)); simp)

theorem ents13 : EntOk Go.Proofs.Try.prog 13 (funEntL Ss13 true Fs13) := fun_okL (fn := Go.Proofs.Try.f13) (c := bodys13) (by kernel_rfl) (by kernel_rfl) (by kernel_rfl) (by kernel_rfl) callss13
noncomputable def Es13 : List (Nat × Ent) := (13, funEntL Ss13 true Fs13) :: Es21
theorem Es13_ok : EntsOk Go.Proofs.Try.prog (ofL Es13) := .cons ents13 Es21_ok

/-! ### barbican/pack.Uniform -/
noncomputable def bodys5 : Code := (Go.Proofs.Try.f5.body).getD .skip
abbrev Ss5 : FL := ⟨⟨[], [.env 0 (.c (.fz (.int .u8)))], []⟩, 1, [(.ret, ⟨[], [.env 0 (.agg [.ints .i32 256]), .env 1 (.c (.int .i64))], []⟩)], [.cell 2 25, .tmp 3], false⟩
noncomputable def cs5 : Ctx Go.Proofs.Try.prog := ⟨stab, ofL Es13, stabOk, Es13_ok, sdep, sord⟩
abbrev ls5_0 : Lay := ⟨[(2, .ptr 2 0 256), (4, .clo 21 [5019, 9019, 7019]), (5, .ptr 5 0 256)], [.env 6 (.c (.int .i64)), .reg 2 (.cells [.ints .i32 256]), .reg 5019 (.cells [.int .i64]), .reg 9019 (.cells [.fz (.int .u8)]), .reg 7019 (.cells [.ptr 1019 0 29]), .reg 5 (.cells [.ints .i32 256]), .reg 1019 (.cells [.int .i64, .ints .u64 25, .int .i64, .bool, .int .i64])], [(2, .env 2 0), (5, .env 5 0), (1019, .reg 7019 0)]⟩
abbrev os5_0 : List (AExit × Lay) := [(.ret, ⟨[(2, .ptr 2 0 256)], [.env 3 (.c (.int .i64)), .reg 2 (.cells [.ints .i32 256])], [(2, .env 2 0)]⟩), (.exit 0, ⟨[(2, .ptr 2 0 256), (5, .ptr 5 0 256)], [.reg 2 (.cells [.ints .i32 256]), .reg 5 (.cells [.ints .i32 256])], [(2, .env 2 0), (5, .env 5 0)]⟩)]
noncomputable def steps5_0 : Int × (Nat → Int) × Int × (List Int) × Unit × (Nat → Int) × (Int × (Nat → Int) × Int × Bool × Int) → Option ((Int × (Nat → Int) × Int × (List Int) × Unit × (Nat → Int) × (Int × (Nat → Int) × Int × Bool × Int)) ⊕ ((Int × (Nat → Int)) ⊕ ((Nat → Int) × (Nat → Int))))
  | (t6, r2, r5019, r9019, r7019, r5, r1019) =>
    if (decide (t6 < 256)) = true then
      (Fs21 (r5019, r9019, (), (r1019.1, r1019.2.1, r1019.2.2.1, r1019.2.2.2.1, r1019.2.2.2.2))).bind fun (y5, y6, y7, y8, y9, y10) =>
        (Fs21 (y7, y8, (), (y10.1, y10.2.1, y10.2.2.1, y10.2.2.2.1, y10.2.2.2.2))).bind fun (y11, y12, y13, y14, y15, y16) =>
          (Fs21 (y13, y14, (), (y16.1, y16.2.1, y16.2.2.1, y16.2.2.2.1, y16.2.2.2.2))).bind fun (y17, y18, y19, y20, y21, y22) =>
            if (!y18) = true then
              some (.inr (.inl (94, (fun _ => 0))))
            else
              let x23 : Int := (bitsOr .i32 (IntKind.i32.wrap y5) (shlI .i32 (IntKind.i32.wrap y11) 8))
              let x24 : Int := (bitsOr .i32 x23 (shlI .i32 (IntKind.i32.wrap (bitsAnd .u8 y17 127)) 16))
              if (decide (x24 < 8380417)) = true then
                if (0 : Int) ≤ t6 ∧ t6 < ((256 : Int) : Int) then
                  some (.inl ((IntKind.i64.wrap (t6 + 1)), r2, y19, y20, (), (upd r5 t6.toNat x24), (y22.1, y22.2.1, y22.2.2.1, y22.2.2.2.1, y22.2.2.2.2)))
                else none
              else
                some (.inl (t6, r2, y19, y20, (), r5, (y22.1, y22.2.1, y22.2.2.1, y22.2.2.2.1, y22.2.2.2.2)))
    else
      some (.inr (.inr (r2, r5)))

noncomputable def anns5_0 : Ann := .none
noncomputable def Fs5 : (List Int) → Option (((Nat → Int) × Int))
  | a0 =>
    if ((a0.length : Int) != 34) = true then
      some ((fun _ => 0), 91)
    else
      (Fs13 (4, a0, 6048)).bind fun (y1, y2, y3, y4) =>
        (loopO steps5_0 (0, (fun _ => 0), y1, ([] : List Int), (), (fun _ => 0), (y4.1, y4.2.1, y4.2.2.1, y4.2.2.2.1, y4.2.2.2.2))).bind fun
          | (.inl (z25, z26)) =>
            some (z26, z25)
          | (.inr (z27, z28)) =>
            some (z28, 0)

noncomputable def anns5 : Ann := (.seq .none (.seq .none (.seq .none (.seq .none (.seq (.seq .none (.seq (.cut (cutEnt ls5_0 os5_0 (loopO (steps5_0)))) .none)) .none)))))
theorem eqs5_0 : ∀ s : ls5_0.T, exec stab (ofL Es13) 59 (Code.at' [1, 1, 1, 1, 0, 1, 0, 0] bodys5) anns5_0 (fun e st => loopEnd (l := ls5_0) (outs := os5_0) e st) (ls5_0.enc s) = steps5_0 s := by
  rintro ⟨t6, r2, r5019, r9019, r7019, r5, r1019⟩
  kernel_rfl
theorem oks5_0 : LOk Go.Proofs.Try.prog 59 (cutEnt ls5_0 os5_0 (loopO steps5_0)) (Code.at' [1, 1, 1, 1, 0, 1, 0] bodys5) := by
  have e : Code.at' [1, 1, 1, 1, 0, 1, 0] bodys5 = .loop (Code.at' [1, 1, 1, 1, 0, 1, 0, 0] bodys5) := by kernel_rfl
  rw [e]
  refine loop_ok cs5 59 rfl rfl (annOk_of_cuts ?_) eqs5_0
  intro x hx
  exact absurd hx (by show x ∉ ([] : List (List Nat × LEnt)); simp)

theorem eqs5 : ∀ x : Ss5.inT, exec stab (ofL Es13) 59 bodys5 anns5 (finL stab Ss5) (Ss5.inp.enc x) = Fs5 x := by
  intro x
  kernel_rfl
theorem callss5 : CallsL Go.Proofs.Try.prog 5 Ss5 Fs5 := by
  refine fun_callsL (fn := Go.Proofs.Try.f5) (c := bodys5) (ann := anns5) cs5 (by kernel_rfl) (by kernel_rfl) (by kernel_rfl) (by kernel_rfl) (by kernel_rfl) (annOk_of_cuts ?_) eqs5
  have hc : Ann.cuts anns5 = [([1, 1, 1, 1, 0, 1, 0], (cutEnt ls5_0 os5_0 (loopO (steps5_0))))] := by kernel_rfl
  rw [hc]
  intro x hx
  simp only [List.mem_cons, List.not_mem_nil, or_false] at hx
  rcases hx with rfl
  · have e : Code.at' [1, 1, 1, 1, 0, 1, 0] bodys5 = Code.at' [1, 1, 1, 1, 0, 1, 0] bodys5 := by kernel_rfl
    rw [e]; exact oks5_0

theorem ents5 : EntOk Go.Proofs.Try.prog 5 (funEntL Ss5 true Fs5) := fun_okL (fn := Go.Proofs.Try.f5) (c := bodys5) (by kernel_rfl) (by kernel_rfl) (by kernel_rfl) (by kernel_rfl) callss5
noncomputable def Es5 : List (Nat × Ent) := (5, funEntL Ss5 true Fs5) :: Es13
theorem Es5_ok : EntsOk Go.Proofs.Try.prog (ofL Es5) := .cons ents5 Es13_ok

/-! ### barbican/ring.mod -/
noncomputable def bodys23 : Code := (Go.Proofs.Try.f23.body).getD .skip
abbrev Ss23 : FL := ⟨⟨[], [.env 0 (.c (.int .i64))], []⟩, 1, [(.ret, ⟨[], [.env 0 (.c (.int .i32))], []⟩)], [.tmp 2], false⟩
noncomputable def cs23 : Ctx Go.Proofs.Try.prog := ⟨stab, ofL Es5, stabOk, Es5_ok, sdep, sord⟩
noncomputable def Fs23 : Int → Option ((Int))
  | a0 =>
    if (decide ((a0.tmod 8380417) < 0)) = true then
      let x1 : Int := (IntKind.i32.wrap (IntKind.i64.wrap ((a0.tmod 8380417) + 8380417)))
      some x1
    else
      some (IntKind.i32.wrap (a0.tmod 8380417))

noncomputable def anns23 : Ann := .none
theorem eqs23 : ∀ x : Ss23.inT, exec stab (ofL Es5) 11 bodys23 anns23 (finL stab Ss23) (Ss23.inp.enc x) = Fs23 x := by
  intro x
  kernel_rfl
theorem callss23 : CallsL Go.Proofs.Try.prog 23 Ss23 Fs23 := by
  refine fun_callsL (fn := Go.Proofs.Try.f23) (c := bodys23) (ann := anns23) cs23 (by kernel_rfl) (by kernel_rfl) (by kernel_rfl) (by kernel_rfl) (by kernel_rfl) (annOk_of_cuts ?_) eqs23
  intro x hx
  exact absurd hx (by show x ∉ ([] : List (List Nat × LEnt)); simp)

theorem ents23 : EntOk Go.Proofs.Try.prog 23 (funEntL Ss23 true Fs23) := fun_okL (fn := Go.Proofs.Try.f23) (c := bodys23) (by kernel_rfl) (by kernel_rfl) (by kernel_rfl) (by kernel_rfl) callss23
noncomputable def Es23 : List (Nat × Ent) := (23, funEntL Ss23 true Fs23) :: Es5
theorem Es23_ok : EntsOk Go.Proofs.Try.prog (ofL Es23) := .cons ents23 Es5_ok

/-! ### barbican/ring.Reduce -/
noncomputable def bodys14 : Code := (Go.Proofs.Try.f14.body).getD .skip
abbrev Ss14 : FL := ⟨⟨[], [.env 0 (.agg [.ints .i32 256])], []⟩, 1, [(.ret, ⟨[], [.env 0 (.agg [.ints .i32 256])], []⟩)], [.cell 2 25], false⟩
noncomputable def cs14 : Ctx Go.Proofs.Try.prog := ⟨stab, ofL Es23, stabOk, Es23_ok, sdep, sord⟩
abbrev ls14_0 : Lay := ⟨[(1, .ptr 1 0 256), (2, .ptr 2 0 256)], [.env 5 (.agg [.ints .i32 256]), .env 6 (.c (.int .i64)), .reg 1 (.cells [.ints .i32 256]), .reg 2 (.cells [.ints .i32 256])], [(1, .env 1 0), (2, .env 2 0)]⟩
abbrev os14_0 : List (AExit × Lay) := [(.exit 0, ⟨[(1, .ptr 1 0 256), (2, .ptr 2 0 256)], [.reg 1 (.cells [.ints .i32 256]), .reg 2 (.cells [.ints .i32 256])], [(1, .env 1 0), (2, .env 2 0)]⟩)]
noncomputable def steps14_0 : (Nat → Int) × Int × (Nat → Int) × (Nat → Int) → Option (((Nat → Int) × Int × (Nat → Int) × (Nat → Int)) ⊕ (((Nat → Int) × (Nat → Int))))
  | (t5, t6, r1, r2) =>
    if (decide (t6 < 256)) = true then
      if (0 : Int) ≤ t6 ∧ t6 < (256 : Int) then
        (Fs23 (IntKind.i64.wrap (t5 t6.toNat))).bind fun y1 =>
          if (0 : Int) ≤ t6 ∧ t6 < ((256 : Int) : Int) then
            some (.inl (t5, (IntKind.i64.wrap (t6 + 1)), (upd r1 t6.toNat y1), r2))
          else none
      else none
    else
      some (.inr (r1, r2))

noncomputable def anns14_0 : Ann := .none
noncomputable def Fs14 : (Nat → Int) → Option (((Nat → Int)))
  | a0 =>
    (loopO steps14_0 (a0, 0, a0, (fun _ => 0))).bind fun (z2, z3) =>
      some z2

noncomputable def anns14 : Ann := (.seq .none (.seq (.seq .none (.seq (.cut (cutEnt ls14_0 os14_0 (loopO (steps14_0)))) .none)) .none))
theorem eqs14_0 : ∀ s : ls14_0.T, exec stab (ofL Es23) 17 (Code.at' [1, 0, 1, 0, 0] bodys14) anns14_0 (fun e st => loopEnd (l := ls14_0) (outs := os14_0) e st) (ls14_0.enc s) = steps14_0 s := by
  rintro ⟨t5, t6, r1, r2⟩
  kernel_rfl
theorem oks14_0 : LOk Go.Proofs.Try.prog 17 (cutEnt ls14_0 os14_0 (loopO steps14_0)) (Code.at' [1, 0, 1, 0] bodys14) := by
  have e : Code.at' [1, 0, 1, 0] bodys14 = .loop (Code.at' [1, 0, 1, 0, 0] bodys14) := by kernel_rfl
  rw [e]
  refine loop_ok cs14 17 rfl rfl (annOk_of_cuts ?_) eqs14_0
  intro x hx
  exact absurd hx (by show x ∉ ([] : List (List Nat × LEnt)); simp)

theorem eqs14 : ∀ x : Ss14.inT, exec stab (ofL Es23) 17 bodys14 anns14 (finL stab Ss14) (Ss14.inp.enc x) = Fs14 x := by
  intro x
  kernel_rfl
theorem callss14 : CallsL Go.Proofs.Try.prog 14 Ss14 Fs14 := by
  refine fun_callsL (fn := Go.Proofs.Try.f14) (c := bodys14) (ann := anns14) cs14 (by kernel_rfl) (by kernel_rfl) (by kernel_rfl) (by kernel_rfl) (by kernel_rfl) (annOk_of_cuts ?_) eqs14
  have hc : Ann.cuts anns14 = [([1, 0, 1, 0], (cutEnt ls14_0 os14_0 (loopO (steps14_0))))] := by kernel_rfl
  rw [hc]
  intro x hx
  simp only [List.mem_cons, List.not_mem_nil, or_false] at hx
  rcases hx with rfl
  · have e : Code.at' [1, 0, 1, 0] bodys14 = Code.at' [1, 0, 1, 0] bodys14 := by kernel_rfl
    rw [e]; exact oks14_0

theorem ents14 : EntOk Go.Proofs.Try.prog 14 (funEntL Ss14 true Fs14) := fun_okL (fn := Go.Proofs.Try.f14) (c := bodys14) (by kernel_rfl) (by kernel_rfl) (by kernel_rfl) (by kernel_rfl) callss14
noncomputable def Es14 : List (Nat × Ent) := (14, funEntL Ss14 true Fs14) :: Es23
theorem Es14_ok : EntsOk Go.Proofs.Try.prog (ofL Es14) := .cons ents14 Es23_ok

/-! ### barbican/pack.Small -/
noncomputable def bodys6 : Code := (Go.Proofs.Try.f6.body).getD .skip
abbrev Ss6 : FL := ⟨⟨[], [.env 0 (.c (.fz (.int .u8)))], []⟩, 1, [(.ret, ⟨[], [.env 0 (.agg [.ints .i32 256]), .env 1 (.c (.int .i64))], []⟩)], [.cell 2 25, .tmp 3], false⟩
noncomputable def cs6 : Ctx Go.Proofs.Try.prog := ⟨stab, ofL Es14, stabOk, Es14_ok, sdep, sord⟩
abbrev ls6_1 : Lay := ⟨[(2, .ptr 2 0 256), (4, .clo 21 [5016, 9016, 7016]), (5, .ptr 5 0 256)], [.env 6 (.c (.int .i64)), .env 31 (.agg [.ints .u8 2]), .env 32 (.c (.int .i64)), .reg 2 (.cells [.ints .i32 256]), .reg 5016 (.cells [.int .i64]), .reg 9016 (.cells [.fz (.int .u8)]), .reg 7016 (.cells [.ptr 1021 0 29]), .reg 5 (.cells [.ints .i32 256]), .reg 1021 (.cells [.int .i64, .ints .u64 25, .int .i64, .bool, .int .i64])], [(2, .env 2 0), (5, .env 5 0), (1021, .reg 7016 0)]⟩
abbrev os6_1 : List (AExit × Lay) := [(.exit 2, ⟨[(2, .ptr 2 0 256), (4, .clo 21 [5016, 9016, 7016]), (5, .ptr 5 0 256)], [.env 6 (.c (.int .i64)), .reg 2 (.cells [.ints .i32 256]), .reg 5016 (.cells [.int .i64]), .reg 9016 (.cells [.fz (.int .u8)]), .reg 7016 (.cells [.ptr 1021 0 29]), .reg 5 (.cells [.ints .i32 256]), .reg 1021 (.cells [.int .i64, .ints .u64 25, .int .i64, .bool, .int .i64])], [(2, .env 2 0), (5, .env 5 0), (1021, .reg 7016 0)]⟩)]
noncomputable def steps6_1 : Int × (Nat → Int) × Int × (Nat → Int) × Int × (List Int) × Unit × (Nat → Int) × (Int × (Nat → Int) × Int × Bool × Int) → Option ((Int × (Nat → Int) × Int × (Nat → Int) × Int × (List Int) × Unit × (Nat → Int) × (Int × (Nat → Int) × Int × Bool × Int)) ⊕ ((Int × (Nat → Int) × Int × (List Int) × Unit × (Nat → Int) × (Int × (Nat → Int) × Int × Bool × Int))))
  | (t6, t31, t32, r2, r5016, r9016, r7016, r5, r1021) =>
    if (decide (t32 < 2)) = true then
      if (0 : Int) ≤ t32 ∧ t32 < (2 : Int) then
        if (decide ((t31 t32.toNat) < 9)) = true then
          if (decide (t6 < 256)) = true then
            if (0 : Int) ≤ t6 ∧ t6 < ((256 : Int) : Int) then
              let f12 : Nat → Int := (upd r5 t6.toNat (IntKind.i32.wrap (4 - (IntKind.i32.wrap (t31 t32.toNat)))))
              some (.inl ((IntKind.i64.wrap (t6 + 1)), t31, (IntKind.i64.wrap (t32 + 1)), r2, r5016, r9016, (), f12, (r1021.1, r1021.2.1, r1021.2.2.1, r1021.2.2.2.1, r1021.2.2.2.2)))
            else none
          else
            some (.inl (t6, t31, (IntKind.i64.wrap (t32 + 1)), r2, r5016, r9016, (), r5, (r1021.1, r1021.2.1, r1021.2.2.1, r1021.2.2.2.1, r1021.2.2.2.2)))
        else
          some (.inl (t6, t31, (IntKind.i64.wrap (t32 + 1)), r2, r5016, r9016, (), r5, (r1021.1, r1021.2.1, r1021.2.2.1, r1021.2.2.2.1, r1021.2.2.2.2)))
      else none
    else
      some (.inr (t6, r2, r5016, r9016, (), r5, (r1021.1, r1021.2.1, r1021.2.2.1, r1021.2.2.2.1, r1021.2.2.2.2)))

noncomputable def anns6_1 : Ann := .none
abbrev ls6_0 : Lay := ⟨[(2, .ptr 2 0 256), (4, .clo 21 [5016, 9016, 7016]), (5, .ptr 5 0 256)], [.env 6 (.c (.int .i64)), .reg 2 (.cells [.ints .i32 256]), .reg 5016 (.cells [.int .i64]), .reg 9016 (.cells [.fz (.int .u8)]), .reg 7016 (.cells [.ptr 1016 0 29]), .reg 5 (.cells [.ints .i32 256]), .reg 1016 (.cells [.int .i64, .ints .u64 25, .int .i64, .bool, .int .i64])], [(2, .env 2 0), (5, .env 5 0), (1016, .reg 7016 0)]⟩
abbrev os6_0 : List (AExit × Lay) := [(.ret, ⟨[(2, .ptr 2 0 256)], [.env 3 (.c (.int .i64)), .reg 2 (.cells [.ints .i32 256])], [(2, .env 2 0)]⟩), (.exit 0, ⟨[(2, .ptr 2 0 256), (5, .ptr 5 0 256)], [.reg 2 (.cells [.ints .i32 256]), .reg 5 (.cells [.ints .i32 256])], [(2, .env 2 0), (5, .env 5 0)]⟩)]
noncomputable def steps6_0 : Int × (Nat → Int) × Int × (List Int) × Unit × (Nat → Int) × (Int × (Nat → Int) × Int × Bool × Int) → Option ((Int × (Nat → Int) × Int × (List Int) × Unit × (Nat → Int) × (Int × (Nat → Int) × Int × Bool × Int)) ⊕ ((Int × (Nat → Int)) ⊕ ((Nat → Int) × (Nat → Int))))
  | (t6, r2, r5016, r9016, r7016, r5, r1016) =>
    if (decide (t6 < 256)) = true then
      (Fs21 (r5016, r9016, (), (r1016.1, r1016.2.1, r1016.2.2.1, r1016.2.2.2.1, r1016.2.2.2.2))).bind fun (y5, y6, y7, y8, y9, y10) =>
        if (!y6) = true then
          some (.inr (.inl (94, (fun _ => 0))))
        else
          let f11 : Nat → Int := (upd (upd (fun _ => 0) 0 (bitsAnd .u8 y5 15)) 1 (shrI .u8 y5 4))
          (loopO steps6_1 (t6, f11, 0, r2, y7, y8, (), r5, (y10.1, y10.2.1, y10.2.2.1, y10.2.2.2.1, y10.2.2.2.2))).bind fun (z13, z14, z15, z16, z17, z18, z19) =>
            some (.inl (z13, z14, z15, z16, (), z18, (z19.1, z19.2.1, z19.2.2.1, z19.2.2.2.1, z19.2.2.2.2)))
    else
      some (.inr (.inr (r2, r5)))

noncomputable def anns6_0 : Ann := (.seq .none (.seq (.seq .none (.seq .none (.seq .none (.seq (.cut (cutEnt ls6_1 os6_1 (loopO (steps6_1)))) .none)))) .none))
noncomputable def Fs6 : (List Int) → Option (((Nat → Int) × Int))
  | a0 =>
    if ((a0.length : Int) != 66) = true then
      some ((fun _ => 0), 91)
    else
      (Fs13 (5, a0, 2000)).bind fun (y1, y2, y3, y4) =>
        (loopO steps6_0 (0, (fun _ => 0), y1, ([] : List Int), (), (fun _ => 0), (y4.1, y4.2.1, y4.2.2.1, y4.2.2.2.1, y4.2.2.2.2))).bind fun
          | (.inl (z20, z21)) =>
            some (z21, z20)
          | (.inr (z22, z23)) =>
            (Fs14 z23).bind fun y24 =>
              some (y24, 0)

noncomputable def anns6 : Ann := (.seq .none (.seq .none (.seq .none (.seq .none (.seq (.seq .none (.seq (.cut (cutEnt ls6_0 os6_0 (loopO (steps6_0)))) .none)) .none)))))
theorem eqs6_1 : ∀ s : ls6_1.T, exec stab (ofL Es14) 51 (Code.at' [1, 1, 1, 1, 0, 1, 0, 0, 1, 0, 1, 1, 1, 0, 0] bodys6) anns6_1 (fun e st => loopEnd (l := ls6_1) (outs := os6_1) e st) (ls6_1.enc s) = steps6_1 s := by
  rintro ⟨t6, t31, t32, r2, r5016, r9016, r7016, r5, r1021⟩
  kernel_rfl
theorem oks6_1 : LOk Go.Proofs.Try.prog 51 (cutEnt ls6_1 os6_1 (loopO steps6_1)) (Code.at' [1, 1, 1, 1, 0, 1, 0, 0, 1, 0, 1, 1, 1, 0] bodys6) := by
  have e : Code.at' [1, 1, 1, 1, 0, 1, 0, 0, 1, 0, 1, 1, 1, 0] bodys6 = .loop (Code.at' [1, 1, 1, 1, 0, 1, 0, 0, 1, 0, 1, 1, 1, 0, 0] bodys6) := by kernel_rfl
  rw [e]
  refine loop_ok cs6 51 rfl rfl (annOk_of_cuts ?_) eqs6_1
  intro x hx
  exact absurd hx (by show x ∉ ([] : List (List Nat × LEnt)); simp)

theorem eqs6_0 : ∀ s : ls6_0.T, exec stab (ofL Es14) 51 (Code.at' [1, 1, 1, 1, 0, 1, 0, 0] bodys6) anns6_0 (fun e st => loopEnd (l := ls6_0) (outs := os6_0) e st) (ls6_0.enc s) = steps6_0 s := by
  rintro ⟨t6, r2, r5016, r9016, r7016, r5, r1016⟩
  kernel_rfl
theorem oks6_0 : LOk Go.Proofs.Try.prog 51 (cutEnt ls6_0 os6_0 (loopO steps6_0)) (Code.at' [1, 1, 1, 1, 0, 1, 0] bodys6) := by
  have e : Code.at' [1, 1, 1, 1, 0, 1, 0] bodys6 = .loop (Code.at' [1, 1, 1, 1, 0, 1, 0, 0] bodys6) := by kernel_rfl
  rw [e]
  refine loop_ok cs6 51 rfl rfl (annOk_of_cuts ?_) eqs6_0
  have hc : Ann.cuts anns6_0 = [([1, 0, 1, 1, 1, 0], (cutEnt ls6_1 os6_1 (loopO (steps6_1))))] := by kernel_rfl
  rw [hc]
  intro x hx
  simp only [List.mem_cons, List.not_mem_nil, or_false] at hx
  rcases hx with rfl
  · have e : Code.at' [1, 0, 1, 1, 1, 0] (Code.at' [1, 1, 1, 1, 0, 1, 0, 0] bodys6) = Code.at' [1, 1, 1, 1, 0, 1, 0, 0, 1, 0, 1, 1, 1, 0] bodys6 := by kernel_rfl
    rw [e]; exact oks6_1

theorem eqs6 : ∀ x : Ss6.inT, exec stab (ofL Es14) 51 bodys6 anns6 (finL stab Ss6) (Ss6.inp.enc x) = Fs6 x := by
  intro x
  kernel_rfl
theorem callss6 : CallsL Go.Proofs.Try.prog 6 Ss6 Fs6 := by
  refine fun_callsL (fn := Go.Proofs.Try.f6) (c := bodys6) (ann := anns6) cs6 (by kernel_rfl) (by kernel_rfl) (by kernel_rfl) (by kernel_rfl) (by kernel_rfl) (annOk_of_cuts ?_) eqs6
  have hc : Ann.cuts anns6 = [([1, 1, 1, 1, 0, 1, 0], (cutEnt ls6_0 os6_0 (loopO (steps6_0))))] := by kernel_rfl
  rw [hc]
  intro x hx
  simp only [List.mem_cons, List.not_mem_nil, or_false] at hx
  rcases hx with rfl
  · have e : Code.at' [1, 1, 1, 1, 0, 1, 0] bodys6 = Code.at' [1, 1, 1, 1, 0, 1, 0] bodys6 := by kernel_rfl
    rw [e]; exact oks6_0

theorem ents6 : EntOk Go.Proofs.Try.prog 6 (funEntL Ss6 true Fs6) := fun_okL (fn := Go.Proofs.Try.f6) (c := bodys6) (by kernel_rfl) (by kernel_rfl) (by kernel_rfl) (by kernel_rfl) callss6
noncomputable def Es6 : List (Nat × Ent) := (6, funEntL Ss6 true Fs6) :: Es14
theorem Es6_ok : EntsOk Go.Proofs.Try.prog (ofL Es6) := .cons ents6 Es14_ok

/-! ### barbican/pack.Ball -/
noncomputable def bodys7 : Code := (Go.Proofs.Try.f7.body).getD .skip
abbrev Ss7 : FL := ⟨⟨[], [.env 0 (.c (.fz (.int .u8)))], []⟩, 1, [(.ret, ⟨[], [.env 0 (.agg [.ints .i32 256]), .env 1 (.c (.int .i64))], []⟩)], [.cell 2 25, .tmp 3], false⟩
noncomputable def cs7 : Ctx Go.Proofs.Try.prog := ⟨stab, ofL Es6, stabOk, Es6_ok, sdep, sord⟩
abbrev ls7_0 : Lay := ⟨[(2, .ptr 2 0 256), (4, .clo 21 [5018, 9018, 7018])], [.env 5 (.c (.int .u64)), .env 19 (.c (.int .i64)), .reg 2 (.cells [.ints .i32 256]), .reg 5018 (.cells [.int .i64]), .reg 9018 (.cells [.fz (.int .u8)]), .reg 7018 (.cells [.ptr 1018 0 29]), .reg 1018 (.cells [.int .i64, .ints .u64 25, .int .i64, .bool, .int .i64])], [(2, .env 2 0), (1018, .reg 7018 0)]⟩
abbrev os7_0 : List (AExit × Lay) := [(.exit 0, ⟨[(2, .ptr 2 0 256), (4, .clo 21 [5018, 9018, 7018])], [.env 5 (.c (.int .u64)), .reg 2 (.cells [.ints .i32 256]), .reg 5018 (.cells [.int .i64]), .reg 9018 (.cells [.fz (.int .u8)]), .reg 7018 (.cells [.ptr 1018 0 29]), .reg 1018 (.cells [.int .i64, .ints .u64 25, .int .i64, .bool, .int .i64])], [(2, .env 2 0), (1018, .reg 7018 0)]⟩)]
noncomputable def steps7_0 : Int × Int × (Nat → Int) × Int × (List Int) × Unit × (Int × (Nat → Int) × Int × Bool × Int) → Option ((Int × Int × (Nat → Int) × Int × (List Int) × Unit × (Int × (Nat → Int) × Int × Bool × Int)) ⊕ ((Int × (Nat → Int) × Int × (List Int) × Unit × (Int × (Nat → Int) × Int × Bool × Int))))
  | (t5, t19, r2, r5018, r9018, r7018, r1018) =>
    if (decide (t19 < 8)) = true then
      (Fs21 (r5018, r9018, (), (r1018.1, r1018.2.1, r1018.2.2.1, r1018.2.2.2.1, r1018.2.2.2.2))).bind fun (y5, y6, y7, y8, y9, y10) =>
        if 0 ≤ (IntKind.i64.wrap (8 * t19)) then
          let x11 : Int := (shlI .u64 (IntKind.u64.wrap y5) (IntKind.i64.wrap (8 * t19)))
          some (.inl ((bitsOr .u64 t5 x11), (IntKind.i64.wrap (t19 + 1)), r2, y7, y8, (), (y10.1, y10.2.1, y10.2.2.1, y10.2.2.2.1, y10.2.2.2.2)))
        else none
    else
      some (.inr (t5, r2, r5018, r9018, (), (r1018.1, r1018.2.1, r1018.2.2.1, r1018.2.2.2.1, r1018.2.2.2.2)))

noncomputable def anns7_0 : Ann := .none
abbrev ls7_2 : Lay := ⟨[(2, .ptr 2 0 256), (4, .clo 21 [5018, 9018, 7018]), (9, .ptr 9 0 256)], [.env 5 (.c (.int .u64)), .env 10 (.c (.int .i64)), .env 11 (.c (.int .u8)), .env 12 (.c (.bool)), .reg 2 (.cells [.ints .i32 256]), .reg 5018 (.cells [.int .i64]), .reg 9018 (.cells [.fz (.int .u8)]), .reg 7018 (.cells [.ptr 1041 0 29]), .reg 9 (.cells [.ints .i32 256]), .reg 1041 (.cells [.int .i64, .ints .u64 25, .int .i64, .bool, .int .i64])], [(2, .env 2 0), (9, .env 9 0), (1041, .reg 7018 0)]⟩
abbrev os7_2 : List (AExit × Lay) := [(.exit 4, ⟨[(2, .ptr 2 0 256), (4, .clo 21 [5018, 9018, 7018]), (9, .ptr 9 0 256)], [.env 5 (.c (.int .u64)), .env 10 (.c (.int .i64)), .env 11 (.c (.int .u8)), .env 12 (.c (.bool)), .reg 2 (.cells [.ints .i32 256]), .reg 5018 (.cells [.int .i64]), .reg 9018 (.cells [.fz (.int .u8)]), .reg 7018 (.cells [.ptr 1041 0 29]), .reg 9 (.cells [.ints .i32 256]), .reg 1041 (.cells [.int .i64, .ints .u64 25, .int .i64, .bool, .int .i64])], [(2, .env 2 0), (9, .env 9 0), (1041, .reg 7018 0)]⟩)]
noncomputable def steps7_2 : Int × Int × Int × Bool × (Nat → Int) × Int × (List Int) × Unit × (Nat → Int) × (Int × (Nat → Int) × Int × Bool × Int) → Option ((Int × Int × Int × Bool × (Nat → Int) × Int × (List Int) × Unit × (Nat → Int) × (Int × (Nat → Int) × Int × Bool × Int)) ⊕ ((Int × Int × Int × Bool × (Nat → Int) × Int × (List Int) × Unit × (Nat → Int) × (Int × (Nat → Int) × Int × Bool × Int))))
  | (t5, t10, t11, t12, r2, r5018, r9018, r7018, r9, r1041) =>
    if t12 = true then
      if (decide ((IntKind.i64.wrap t11) > t10)) = true then
        (Fs21 (r5018, r9018, (), (r1041.1, r1041.2.1, r1041.2.2.1, r1041.2.2.2.1, r1041.2.2.2.2))).bind fun (y24, y25, y26, y27, y28, y29) =>
          some (.inl (t5, t10, y24, y25, r2, y26, y27, (), r9, (y29.1, y29.2.1, y29.2.2.1, y29.2.2.2.1, y29.2.2.2.2)))
      else
        some (.inr (t5, t10, t11, t12, r2, r5018, r9018, (), r9, (r1041.1, r1041.2.1, r1041.2.2.1, r1041.2.2.2.1, r1041.2.2.2.2)))
    else
      some (.inr (t5, t10, t11, t12, r2, r5018, r9018, (), r9, (r1041.1, r1041.2.1, r1041.2.2.1, r1041.2.2.2.1, r1041.2.2.2.2)))

noncomputable def anns7_2 : Ann := .none
abbrev ls7_1 : Lay := ⟨[(2, .ptr 2 0 256), (4, .clo 21 [5018, 9018, 7018]), (9, .ptr 9 0 256)], [.env 5 (.c (.int .u64)), .env 10 (.c (.int .i64)), .reg 2 (.cells [.ints .i32 256]), .reg 5018 (.cells [.int .i64]), .reg 9018 (.cells [.fz (.int .u8)]), .reg 7018 (.cells [.ptr 1018 0 29]), .reg 9 (.cells [.ints .i32 256]), .reg 1018 (.cells [.int .i64, .ints .u64 25, .int .i64, .bool, .int .i64])], [(2, .env 2 0), (9, .env 9 0), (1018, .reg 7018 0)]⟩
abbrev os7_1 : List (AExit × Lay) := [(.ret, ⟨[(2, .ptr 2 0 256)], [.env 3 (.c (.int .i64)), .reg 2 (.cells [.ints .i32 256])], [(2, .env 2 0)]⟩), (.exit 2, ⟨[(2, .ptr 2 0 256), (9, .ptr 9 0 256)], [.reg 2 (.cells [.ints .i32 256]), .reg 9 (.cells [.ints .i32 256])], [(2, .env 2 0), (9, .env 9 0)]⟩)]
noncomputable def steps7_1 : Int × Int × (Nat → Int) × Int × (List Int) × Unit × (Nat → Int) × (Int × (Nat → Int) × Int × Bool × Int) → Option ((Int × Int × (Nat → Int) × Int × (List Int) × Unit × (Nat → Int) × (Int × (Nat → Int) × Int × Bool × Int)) ⊕ ((Int × (Nat → Int)) ⊕ ((Nat → Int) × (Nat → Int))))
  | (t5, t10, r2, r5018, r9018, r7018, r9, r1018) =>
    if (decide (t10 < 256)) = true then
      (Fs21 (r5018, r9018, (), (r1018.1, r1018.2.1, r1018.2.2.1, r1018.2.2.2.1, r1018.2.2.2.2))).bind fun (y18, y19, y20, y21, y22, y23) =>
        (loopO steps7_2 (t5, t10, y18, y19, r2, y20, y21, (), r9, (y23.1, y23.2.1, y23.2.2.1, y23.2.2.2.1, y23.2.2.2.2))).bind fun (z30, z31, z32, z33, z34, z35, z36, z37, z38, z39) =>
          if (!z33) = true then
            some (.inr (.inl (94, (fun _ => 0))))
          else
            if (0 : Int) ≤ z32 ∧ z32 < ((256 : Int) : Int) then
              if (0 : Int) ≤ z31 ∧ z31 < ((256 : Int) : Int) then
                let x40 : Int := (IntKind.i32.wrap (2 * (IntKind.i32.wrap (bitsAnd .u64 z30 1))))
                if (0 : Int) ≤ z32 ∧ z32 < ((256 : Int) : Int) then
                  let f41 : Nat → Int := (upd (upd z38 z31.toNat (z38 z32.toNat)) z32.toNat (IntKind.i32.wrap (1 - x40)))
                  some (.inl ((shrI .u64 z30 1), (IntKind.i64.wrap (z31 + 1)), z34, z35, z36, (), f41, (z39.1, z39.2.1, z39.2.2.1, z39.2.2.2.1, z39.2.2.2.2)))
                else none
              else none
            else none
    else
      some (.inr (.inr (r2, r9)))

noncomputable def anns7_1 : Ann := (.seq .none (.seq (.seq (.seq .none (.seq (.seq (.cut (cutEnt ls7_2 os7_2 (loopO (steps7_2)))) .none) .none)) .none) .none))
noncomputable def Fs7 : (List Int) → Option (((Nat → Int) × Int))
  | a0 =>
    if ((a0.length : Int) != 48) = true then
      some ((fun _ => 0), 91)
    else
      (Fs13 (5, a0, 1008)).bind fun (y1, y2, y3, y4) =>
        (loopO steps7_0 (0, 0, (fun _ => 0), y1, ([] : List Int), (), (y4.1, y4.2.1, y4.2.2.1, y4.2.2.2.1, y4.2.2.2.2))).bind fun (z12, z13, z14, z15, z16, z17) =>
          (loopO steps7_1 (z12, 207, z13, z14, z15, (), (fun _ => 0), (z17.1, z17.2.1, z17.2.2.1, z17.2.2.2.1, z17.2.2.2.2))).bind fun
            | (.inl (z42, z43)) =>
              some (z43, z42)
            | (.inr (z44, z45)) =>
              (Fs14 z45).bind fun y46 =>
                some (y46, 0)

noncomputable def anns7 : Ann := (.seq .none (.seq .none (.seq .none (.seq .none (.seq (.seq .none (.seq (.cut (cutEnt ls7_0 os7_0 (loopO (steps7_0)))) .none)) (.seq .none (.seq (.seq .none (.seq (.cut (cutEnt ls7_1 os7_1 (loopO (steps7_1)))) .none)) .none)))))))
theorem eqs7_0 : ∀ s : ls7_0.T, exec stab (ofL Es6) 75 (Code.at' [1, 1, 1, 1, 0, 1, 0, 0] bodys7) anns7_0 (fun e st => loopEnd (l := ls7_0) (outs := os7_0) e st) (ls7_0.enc s) = steps7_0 s := by
  rintro ⟨t5, t19, r2, r5018, r9018, r7018, r1018⟩
  kernel_rfl
theorem oks7_0 : LOk Go.Proofs.Try.prog 75 (cutEnt ls7_0 os7_0 (loopO steps7_0)) (Code.at' [1, 1, 1, 1, 0, 1, 0] bodys7) := by
  have e : Code.at' [1, 1, 1, 1, 0, 1, 0] bodys7 = .loop (Code.at' [1, 1, 1, 1, 0, 1, 0, 0] bodys7) := by kernel_rfl
  rw [e]
  refine loop_ok cs7 75 rfl rfl (annOk_of_cuts ?_) eqs7_0
  intro x hx
  exact absurd hx (by show x ∉ ([] : List (List Nat × LEnt)); simp)

theorem eqs7_2 : ∀ s : ls7_2.T, exec stab (ofL Es6) 75 (Code.at' [1, 1, 1, 1, 1, 1, 0, 1, 0, 0, 1, 0, 0, 1, 0, 0, 0] bodys7) anns7_2 (fun e st => loopEnd (l := ls7_2) (outs := os7_2) e st) (ls7_2.enc s) = steps7_2 s := by
  rintro ⟨t5, t10, t11, t12, r2, r5018, r9018, r7018, r9, r1041⟩
  kernel_rfl
theorem oks7_2 : LOk Go.Proofs.Try.prog 75 (cutEnt ls7_2 os7_2 (loopO steps7_2)) (Code.at' [1, 1, 1, 1, 1, 1, 0, 1, 0, 0, 1, 0, 0, 1, 0, 0] bodys7) := by
  have e : Code.at' [1, 1, 1, 1, 1, 1, 0, 1, 0, 0, 1, 0, 0, 1, 0, 0] bodys7 = .loop (Code.at' [1, 1, 1, 1, 1, 1, 0, 1, 0, 0, 1, 0, 0, 1, 0, 0, 0] bodys7) := by kernel_rfl
  rw [e]
  refine loop_ok cs7 75 rfl rfl (annOk_of_cuts ?_) eqs7_2
  intro x hx
  exact absurd hx (by show x ∉ ([] : List (List Nat × LEnt)); simp)

theorem eqs7_1 : ∀ s : ls7_1.T, exec stab (ofL Es6) 75 (Code.at' [1, 1, 1, 1, 1, 1, 0, 1, 0, 0] bodys7) anns7_1 (fun e st => loopEnd (l := ls7_1) (outs := os7_1) e st) (ls7_1.enc s) = steps7_1 s := by
  rintro ⟨t5, t10, r2, r5018, r9018, r7018, r9, r1018⟩
  kernel_rfl
theorem oks7_1 : LOk Go.Proofs.Try.prog 75 (cutEnt ls7_1 os7_1 (loopO steps7_1)) (Code.at' [1, 1, 1, 1, 1, 1, 0, 1, 0] bodys7) := by
  have e : Code.at' [1, 1, 1, 1, 1, 1, 0, 1, 0] bodys7 = .loop (Code.at' [1, 1, 1, 1, 1, 1, 0, 1, 0, 0] bodys7) := by kernel_rfl
  rw [e]
  refine loop_ok cs7 75 rfl rfl (annOk_of_cuts ?_) eqs7_1
  have hc : Ann.cuts anns7_1 = [([1, 0, 0, 1, 0, 0], (cutEnt ls7_2 os7_2 (loopO (steps7_2))))] := by kernel_rfl
  rw [hc]
  intro x hx
  simp only [List.mem_cons, List.not_mem_nil, or_false] at hx
  rcases hx with rfl
  · have e : Code.at' [1, 0, 0, 1, 0, 0] (Code.at' [1, 1, 1, 1, 1, 1, 0, 1, 0, 0] bodys7) = Code.at' [1, 1, 1, 1, 1, 1, 0, 1, 0, 0, 1, 0, 0, 1, 0, 0] bodys7 := by kernel_rfl
    rw [e]; exact oks7_2

theorem eqs7 : ∀ x : Ss7.inT, exec stab (ofL Es6) 75 bodys7 anns7 (finL stab Ss7) (Ss7.inp.enc x) = Fs7 x := by
  intro x
  kernel_rfl
theorem callss7 : CallsL Go.Proofs.Try.prog 7 Ss7 Fs7 := by
  refine fun_callsL (fn := Go.Proofs.Try.f7) (c := bodys7) (ann := anns7) cs7 (by kernel_rfl) (by kernel_rfl) (by kernel_rfl) (by kernel_rfl) (by kernel_rfl) (annOk_of_cuts ?_) eqs7
  have hc : Ann.cuts anns7 = [([1, 1, 1, 1, 0, 1, 0], (cutEnt ls7_0 os7_0 (loopO (steps7_0)))), ([1, 1, 1, 1, 1, 1, 0, 1, 0], (cutEnt ls7_1 os7_1 (loopO (steps7_1))))] := by kernel_rfl
  rw [hc]
  intro x hx
  simp only [List.mem_cons, List.not_mem_nil, or_false] at hx
  rcases hx with rfl | rfl
  · have e : Code.at' [1, 1, 1, 1, 0, 1, 0] bodys7 = Code.at' [1, 1, 1, 1, 0, 1, 0] bodys7 := by kernel_rfl
    rw [e]; exact oks7_0
  · have e : Code.at' [1, 1, 1, 1, 1, 1, 0, 1, 0] bodys7 = Code.at' [1, 1, 1, 1, 1, 1, 0, 1, 0] bodys7 := by kernel_rfl
    rw [e]; exact oks7_1

theorem ents7 : EntOk Go.Proofs.Try.prog 7 (funEntL Ss7 true Fs7) := fun_okL (fn := Go.Proofs.Try.f7) (c := bodys7) (by kernel_rfl) (by kernel_rfl) (by kernel_rfl) (by kernel_rfl) callss7
noncomputable def Es7 : List (Nat × Ent) := (7, funEntL Ss7 true Fs7) :: Es6
theorem Es7_ok : EntsOk Go.Proofs.Try.prog (ofL Es7) := .cons ents7 Es6_ok

/-! ### barbican/barbicanref03.Kind -/
noncomputable def bodys24 : Code := (Go.Proofs.Try.f24.body).getD .skip
abbrev Ss24 : FL := ⟨⟨[], [.env 0 (.c (.int .i64))], []⟩, 1, [(.ret, ⟨[], [.env 0 (.c (.int .i64)), .env 1 (.c (.int .u8)), .env 2 (.c (.int .i64)), .env 3 (.c (.bool))], []⟩)], [.tmp 2, .tmp 3, .tmp 4, .tmp 5], false⟩
noncomputable def cs24 : Ctx Go.Proofs.Try.prog := ⟨stab, ofL Es7, stabOk, Es7_ok, sdep, sord⟩
noncomputable def Fs24 : Int → Option ((Int × Int × Int × Bool))
  | a0 =>
    if (a0 == 1) = true then
      some (136, 6, 32, true)
    else
      if (a0 == 2) = true then
        some (104, 6, 48, true)
      else
        if (a0 == 3) = true then
          some (72, 6, 64, true)
        else
          if (a0 == 4) = true then
            some (168, 31, (-1), true)
          else
            if (a0 == 5) = true then
              some (136, 31, (-1), true)
            else
              some (0, 0, 0, false)

noncomputable def anns24 : Ann := .none
theorem eqs24 : ∀ x : Ss24.inT, exec stab (ofL Es7) 17 bodys24 anns24 (finL stab Ss24) (Ss24.inp.enc x) = Fs24 x := by
  intro x
  kernel_rfl
theorem callss24 : CallsL Go.Proofs.Try.prog 24 Ss24 Fs24 := by
  refine fun_callsL (fn := Go.Proofs.Try.f24) (c := bodys24) (ann := anns24) cs24 (by kernel_rfl) (by kernel_rfl) (by kernel_rfl) (by kernel_rfl) (by kernel_rfl) (annOk_of_cuts ?_) eqs24
  intro x hx
  exact absurd hx (by show x ∉ ([] : List (List Nat × LEnt)); simp)

theorem ents24 : EntOk Go.Proofs.Try.prog 24 (funEntL Ss24 true Fs24) := fun_okL (fn := Go.Proofs.Try.f24) (c := bodys24) (by kernel_rfl) (by kernel_rfl) (by kernel_rfl) (by kernel_rfl) callss24
noncomputable def Es24 : List (Nat × Ent) := (24, funEntL Ss24 true Fs24) :: Es7
theorem Es24_ok : EntsOk Go.Proofs.Try.prog (ofL Es24) := .cons ents24 Es7_ok

/-! ### barbican/barbicanref03.offsets -/
noncomputable def bodys30 : Code := (Go.Proofs.Try.f30.body).getD .skip
abbrev Ss30 : FL := ⟨⟨[], [], []⟩, 0, [(.ret, ⟨[], [.env 0 (.agg [.ints .i64 25])], []⟩)], [.cell 0 62], false⟩
noncomputable def cs30 : Ctx Go.Proofs.Try.prog := ⟨stab, ofL Es24, stabOk, Es24_ok, sdep, sord⟩
abbrev ls30_0 : Lay := ⟨[(0, .ptr 0 0 25), (1, .ptr 1 0 25)], [.env 2 (.c (.int .i64)), .env 3 (.c (.int .i64)), .env 4 (.c (.int .i64)), .reg 0 (.cells [.ints .i64 25]), .reg 1 (.cells [.ints .i64 25])], [(0, .env 0 0), (1, .env 1 0)]⟩
abbrev os30_0 : List (AExit × Lay) := [(.exit 0, ⟨[(0, .ptr 0 0 25), (1, .ptr 1 0 25)], [.reg 0 (.cells [.ints .i64 25]), .reg 1 (.cells [.ints .i64 25])], [(0, .env 0 0), (1, .env 1 0)]⟩)]
noncomputable def steps30_0 : Int × Int × Int × (Nat → Int) × (Nat → Int) → Option ((Int × Int × Int × (Nat → Int) × (Nat → Int)) ⊕ (((Nat → Int) × (Nat → Int))))
  | (t2, t3, t4, r0, r1) =>
    if (decide (t4 < 24)) = true then
      let x1 : Int := (IntKind.i64.wrap ((IntKind.i64.wrap (t4 + 1)) * (IntKind.i64.wrap (t4 + 2))))
      if (0 : Int) ≤ (IntKind.i64.wrap (t2 + (IntKind.i64.wrap (5 * t3)))) ∧ (IntKind.i64.wrap (t2 + (IntKind.i64.wrap (5 * t3)))) < ((25 : Int) : Int) then
        let f2 : Nat → Int := (upd r1 (IntKind.i64.wrap (t2 + (IntKind.i64.wrap (5 * t3)))).toNat ((IntKind.i64.wrap (x1.tdiv 2)).tmod 64))
        let x3 : Int := (IntKind.i64.wrap ((IntKind.i64.wrap (2 * t2)) + (IntKind.i64.wrap (3 * t3))))
        some (.inl (t3, (x3.tmod 5), (IntKind.i64.wrap (t4 + 1)), r0, f2))
      else none
    else
      some (.inr (r0, r1))

noncomputable def anns30_0 : Ann := .none
noncomputable def Fs30 : Unit → Option (((Nat → Int)))
  | _ =>
    (loopO steps30_0 (1, 0, 0, (fun _ => 0), (fun _ => 0))).bind fun (z4, z5) =>
      some z5

noncomputable def anns30 : Ann := (.seq .none (.seq .none (.seq .none (.seq .none (.seq (.seq .none (.seq (.cut (cutEnt ls30_0 os30_0 (loopO (steps30_0)))) .none)) .none)))))
theorem eqs30_0 : ∀ s : ls30_0.T, exec stab (ofL Es24) 31 (Code.at' [1, 1, 1, 1, 0, 1, 0, 0] bodys30) anns30_0 (fun e st => loopEnd (l := ls30_0) (outs := os30_0) e st) (ls30_0.enc s) = steps30_0 s := by
  rintro ⟨t2, t3, t4, r0, r1⟩
  kernel_rfl
theorem oks30_0 : LOk Go.Proofs.Try.prog 31 (cutEnt ls30_0 os30_0 (loopO steps30_0)) (Code.at' [1, 1, 1, 1, 0, 1, 0] bodys30) := by
  have e : Code.at' [1, 1, 1, 1, 0, 1, 0] bodys30 = .loop (Code.at' [1, 1, 1, 1, 0, 1, 0, 0] bodys30) := by kernel_rfl
  rw [e]
  refine loop_ok cs30 31 rfl rfl (annOk_of_cuts ?_) eqs30_0
  intro x hx
  exact absurd hx (by show x ∉ ([] : List (List Nat × LEnt)); simp)

theorem eqs30 : ∀ x : Ss30.inT, exec stab (ofL Es24) 31 bodys30 anns30 (finL stab Ss30) (Ss30.inp.enc x) = Fs30 x := by
  intro x
  kernel_rfl
theorem callss30 : CallsL Go.Proofs.Try.prog 30 Ss30 Fs30 := by
  refine fun_callsL (fn := Go.Proofs.Try.f30) (c := bodys30) (ann := anns30) cs30 (by kernel_rfl) (by kernel_rfl) (by kernel_rfl) (by kernel_rfl) (by kernel_rfl) (annOk_of_cuts ?_) eqs30
  have hc : Ann.cuts anns30 = [([1, 1, 1, 1, 0, 1, 0], (cutEnt ls30_0 os30_0 (loopO (steps30_0))))] := by kernel_rfl
  rw [hc]
  intro x hx
  simp only [List.mem_cons, List.not_mem_nil, or_false] at hx
  rcases hx with rfl
  · have e : Code.at' [1, 1, 1, 1, 0, 1, 0] bodys30 = Code.at' [1, 1, 1, 1, 0, 1, 0] bodys30 := by kernel_rfl
    rw [e]; exact oks30_0

theorem ents30 : EntOk Go.Proofs.Try.prog 30 (funEntL Ss30 true Fs30) := fun_okL (fn := Go.Proofs.Try.f30) (c := bodys30) (by kernel_rfl) (by kernel_rfl) (by kernel_rfl) (by kernel_rfl) callss30
noncomputable def Es30 : List (Nat × Ent) := (30, funEntL Ss30 true Fs30) :: Es24
theorem Es30_ok : EntsOk Go.Proofs.Try.prog (ofL Es30) := .cons ents30 Es24_ok

/-! ### barbican/barbicanref03.constants -/
noncomputable def bodys31 : Code := (Go.Proofs.Try.f31.body).getD .skip
abbrev Ss31 : FL := ⟨⟨[], [], []⟩, 0, [(.ret, ⟨[], [.env 0 (.agg [.ints .u64 24])], []⟩)], [.cell 0 64], false⟩
noncomputable def cs31 : Ctx Go.Proofs.Try.prog := ⟨stab, ofL Es30, stabOk, Es30_ok, sdep, sord⟩
abbrev ls31_1 : Lay := ⟨[(0, .ptr 0 0 24), (1, .ptr 1 0 24)], [.env 2 (.c (.int .i64)), .env 3 (.c (.int .i64)), .env 4 (.c (.int .i64)), .env 5 (.c (.int .i64)), .reg 0 (.cells [.ints .u64 24]), .reg 1 (.cells [.ints .u64 24])], [(0, .env 0 0), (1, .env 1 0)]⟩
abbrev os31_1 : List (AExit × Lay) := [(.exit 2, ⟨[(0, .ptr 0 0 24), (1, .ptr 1 0 24)], [.env 2 (.c (.int .i64)), .env 3 (.c (.int .i64)), .reg 0 (.cells [.ints .u64 24]), .reg 1 (.cells [.ints .u64 24])], [(0, .env 0 0), (1, .env 1 0)]⟩)]
noncomputable def steps31_1 : Int × Int × Int × Int × (Nat → Int) × (Nat → Int) → Option ((Int × Int × Int × Int × (Nat → Int) × (Nat → Int)) ⊕ ((Int × Int × (Nat → Int) × (Nat → Int))))
  | (t2, t3, t4, t5, r0, r1) =>
    if (decide (t5 < 7)) = true then
      if (0 : Int) ≤ t3 ∧ t3 < ((24 : Int) : Int) then
        if 0 ≤ (IntKind.u64.wrap (IntKind.i64.wrap (t4 - 1))) then
          let x1 : Int := (shlI .u64 (IntKind.u64.wrap (t2.tmod 2)) (IntKind.u64.wrap (IntKind.i64.wrap (t4 - 1))))
          if (0 : Int) ≤ t3 ∧ t3 < ((24 : Int) : Int) then
            if (decide ((IntKind.i64.wrap (2 * t2)) > 255)) = true then
              let x2 : Int := (bitsXor .i64 (IntKind.i64.wrap ((IntKind.i64.wrap (2 * t2)) - 256)) 113)
              some (.inl (x2, t3, (IntKind.i64.wrap (2 * t4)), (IntKind.i64.wrap (t5 + 1)), r0, (upd r1 t3.toNat (IntKind.u64.wrap ((r1 t3.toNat) + x1)))))
            else
              some (.inl ((IntKind.i64.wrap (2 * t2)), t3, (IntKind.i64.wrap (2 * t4)), (IntKind.i64.wrap (t5 + 1)), r0, (upd r1 t3.toNat (IntKind.u64.wrap ((r1 t3.toNat) + x1)))))
          else none
        else none
      else none
    else
      some (.inr (t2, t3, r0, r1))

noncomputable def anns31_1 : Ann := .none
abbrev ls31_0 : Lay := ⟨[(0, .ptr 0 0 24), (1, .ptr 1 0 24)], [.env 2 (.c (.int .i64)), .env 3 (.c (.int .i64)), .reg 0 (.cells [.ints .u64 24]), .reg 1 (.cells [.ints .u64 24])], [(0, .env 0 0), (1, .env 1 0)]⟩
abbrev os31_0 : List (AExit × Lay) := [(.exit 0, ⟨[(0, .ptr 0 0 24), (1, .ptr 1 0 24)], [.reg 0 (.cells [.ints .u64 24]), .reg 1 (.cells [.ints .u64 24])], [(0, .env 0 0), (1, .env 1 0)]⟩)]
noncomputable def steps31_0 : Int × Int × (Nat → Int) × (Nat → Int) → Option ((Int × Int × (Nat → Int) × (Nat → Int)) ⊕ (((Nat → Int) × (Nat → Int))))
  | (t2, t3, r0, r1) =>
    if (decide (t3 < 24)) = true then
      (loopO steps31_1 (t2, t3, 1, 0, r0, r1)).bind fun (z3, z4, z5, z6) =>
        some (.inl (z3, (IntKind.i64.wrap (z4 + 1)), z5, z6))
    else
      some (.inr (r0, r1))

noncomputable def anns31_0 : Ann := (.seq .none (.seq (.seq (.seq .none (.seq .none (.seq (.cut (cutEnt ls31_1 os31_1 (loopO (steps31_1)))) .none))) .none) .none))
noncomputable def Fs31 : Unit → Option (((Nat → Int)))
  | _ =>
    (loopO steps31_0 (1, 0, (fun _ => 0), (fun _ => 0))).bind fun (z7, z8) =>
      some z8

noncomputable def anns31 : Ann := (.seq .none (.seq .none (.seq .none (.seq (.seq .none (.seq (.cut (cutEnt ls31_0 os31_0 (loopO (steps31_0)))) .none)) .none))))
theorem eqs31_1 : ∀ s : ls31_1.T, exec stab (ofL Es30) 37 (Code.at' [1, 1, 1, 0, 1, 0, 0, 1, 0, 0, 1, 1, 0, 0] bodys31) anns31_1 (fun e st => loopEnd (l := ls31_1) (outs := os31_1) e st) (ls31_1.enc s) = steps31_1 s := by
  rintro ⟨t2, t3, t4, t5, r0, r1⟩
  kernel_rfl
theorem oks31_1 : LOk Go.Proofs.Try.prog 37 (cutEnt ls31_1 os31_1 (loopO steps31_1)) (Code.at' [1, 1, 1, 0, 1, 0, 0, 1, 0, 0, 1, 1, 0] bodys31) := by
  have e : Code.at' [1, 1, 1, 0, 1, 0, 0, 1, 0, 0, 1, 1, 0] bodys31 = .loop (Code.at' [1, 1, 1, 0, 1, 0, 0, 1, 0, 0, 1, 1, 0, 0] bodys31) := by kernel_rfl
  rw [e]
  refine loop_ok cs31 37 rfl rfl (annOk_of_cuts ?_) eqs31_1
  intro x hx
  exact absurd hx (by show x ∉ ([] : List (List Nat × LEnt)); simp)

theorem eqs31_0 : ∀ s : ls31_0.T, exec stab (ofL Es30) 37 (Code.at' [1, 1, 1, 0, 1, 0, 0] bodys31) anns31_0 (fun e st => loopEnd (l := ls31_0) (outs := os31_0) e st) (ls31_0.enc s) = steps31_0 s := by
  rintro ⟨t2, t3, r0, r1⟩
  kernel_rfl
theorem oks31_0 : LOk Go.Proofs.Try.prog 37 (cutEnt ls31_0 os31_0 (loopO steps31_0)) (Code.at' [1, 1, 1, 0, 1, 0] bodys31) := by
  have e : Code.at' [1, 1, 1, 0, 1, 0] bodys31 = .loop (Code.at' [1, 1, 1, 0, 1, 0, 0] bodys31) := by kernel_rfl
  rw [e]
  refine loop_ok cs31 37 rfl rfl (annOk_of_cuts ?_) eqs31_0
  have hc : Ann.cuts anns31_0 = [([1, 0, 0, 1, 1, 0], (cutEnt ls31_1 os31_1 (loopO (steps31_1))))] := by kernel_rfl
  rw [hc]
  intro x hx
  simp only [List.mem_cons, List.not_mem_nil, or_false] at hx
  rcases hx with rfl
  · have e : Code.at' [1, 0, 0, 1, 1, 0] (Code.at' [1, 1, 1, 0, 1, 0, 0] bodys31) = Code.at' [1, 1, 1, 0, 1, 0, 0, 1, 0, 0, 1, 1, 0] bodys31 := by kernel_rfl
    rw [e]; exact oks31_1

theorem eqs31 : ∀ x : Ss31.inT, exec stab (ofL Es30) 37 bodys31 anns31 (finL stab Ss31) (Ss31.inp.enc x) = Fs31 x := by
  intro x
  kernel_rfl
theorem callss31 : CallsL Go.Proofs.Try.prog 31 Ss31 Fs31 := by
  refine fun_callsL (fn := Go.Proofs.Try.f31) (c := bodys31) (ann := anns31) cs31 (by kernel_rfl) (by kernel_rfl) (by kernel_rfl) (by kernel_rfl) (by kernel_rfl) (annOk_of_cuts ?_) eqs31
  have hc : Ann.cuts anns31 = [([1, 1, 1, 0, 1, 0], (cutEnt ls31_0 os31_0 (loopO (steps31_0))))] := by kernel_rfl
  rw [hc]
  intro x hx
  simp only [List.mem_cons, List.not_mem_nil, or_false] at hx
  rcases hx with rfl
  · have e : Code.at' [1, 1, 1, 0, 1, 0] bodys31 = Code.at' [1, 1, 1, 0, 1, 0] bodys31 := by kernel_rfl
    rw [e]; exact oks31_0

theorem ents31 : EntOk Go.Proofs.Try.prog 31 (funEntL Ss31 true Fs31) := fun_okL (fn := Go.Proofs.Try.f31) (c := bodys31) (by kernel_rfl) (by kernel_rfl) (by kernel_rfl) (by kernel_rfl) callss31
noncomputable def Es31 : List (Nat × Ent) := (31, funEntL Ss31 true Fs31) :: Es30
theorem Es31_ok : EntsOk Go.Proofs.Try.prog (ofL Es31) := .cons ents31 Es30_ok

/-! ### barbican/barbicanref03.left -/
noncomputable def bodys32 : Code := (Go.Proofs.Try.f32.body).getD .skip
abbrev Ss32 : FL := ⟨⟨[], [.env 0 (.c (.int .u64)), .env 1 (.c (.int .i64))], []⟩, 2, [(.ret, ⟨[], [.env 0 (.c (.int .u64))], []⟩)], [.tmp 4], false⟩
noncomputable def cs32 : Ctx Go.Proofs.Try.prog := ⟨stab, ofL Es31, stabOk, Es31_ok, sdep, sord⟩
noncomputable def Fs32 : Int × Int → Option ((Int))
  | (a0, a1) =>
    if (a1 == 0) = true then
      some a0
    else
      if 0 ≤ (IntKind.u64.wrap a1) then
        if 0 ≤ (IntKind.u64.wrap (IntKind.i64.wrap (64 - a1))) then
          let x1 : Int := (shrI .u64 a0 (IntKind.u64.wrap (IntKind.i64.wrap (64 - a1))))
          let x2 : Int := (IntKind.u64.wrap ((shlI .u64 a0 (IntKind.u64.wrap a1)) + x1))
          some x2
        else none
      else none

noncomputable def anns32 : Ann := .none
theorem eqs32 : ∀ x : Ss32.inT, exec stab (ofL Es31) 18 bodys32 anns32 (finL stab Ss32) (Ss32.inp.enc x) = Fs32 x := by
  rintro ⟨a0, a1⟩
  kernel_rfl
theorem callss32 : CallsL Go.Proofs.Try.prog 32 Ss32 Fs32 := by
  refine fun_callsL (fn := Go.Proofs.Try.f32) (c := bodys32) (ann := anns32) cs32 (by kernel_rfl) (by kernel_rfl) (by kernel_rfl) (by kernel_rfl) (by kernel_rfl) (annOk_of_cuts ?_) eqs32
  intro x hx
  exact absurd hx (by show x ∉ ([] : List (List Nat × LEnt)); simp)

theorem ents32 : EntOk Go.Proofs.Try.prog 32 (funEntL Ss32 true Fs32) := fun_okL (fn := Go.Proofs.Try.f32) (c := bodys32) (by kernel_rfl) (by kernel_rfl) (by kernel_rfl) (by kernel_rfl) callss32
noncomputable def Es32 : List (Nat × Ent) := (32, funEntL Ss32 true Fs32) :: Es31
theorem Es32_ok : EntsOk Go.Proofs.Try.prog (ofL Es32) := .cons ents32 Es31_ok

/-! ### barbican/barbicanref03.Permute -/
noncomputable def bodys26 : Code := (Go.Proofs.Try.f26.body).getD .skip
abbrev Ss26 : FL := ⟨⟨[], [.env 0 (.agg [.ints .u64 25])], []⟩, 1, [(.ret, ⟨[], [.env 0 (.agg [.ints .u64 25])], []⟩)], [.cell 2 41], false⟩
noncomputable def cs26 : Ctx Go.Proofs.Try.prog := ⟨stab, ofL Es32, stabOk, Es32_ok, sdep, sord⟩
abbrev ls26_2 : Lay := ⟨[(1, .ptr 1 0 25), (2, .ptr 2 0 25), (3, .ptr 3 0 25), (4, .ptr 4 0 24), (6, .ptr 6 0 25)], [.env 5 (.c (.int .i64)), .env 7 (.c (.int .i64)), .env 8 (.c (.int .u64)), .env 9 (.c (.int .u64)), .env 10 (.c (.int .i64)), .reg 1 (.cells [.ints .u64 25]), .reg 2 (.cells [.ints .u64 25]), .reg 3 (.cells [.ints .i64 25]), .reg 4 (.cells [.ints .u64 24]), .reg 6 (.cells [.ints .u64 25])], [(1, .env 1 0), (2, .env 2 0), (3, .env 3 0), (4, .env 4 0), (6, .env 6 0)]⟩
abbrev os26_2 : List (AExit × Lay) := [(.exit 4, ⟨[(1, .ptr 1 0 25), (2, .ptr 2 0 25), (3, .ptr 3 0 25), (4, .ptr 4 0 24), (6, .ptr 6 0 25)], [.env 5 (.c (.int .i64)), .env 7 (.c (.int .i64)), .env 8 (.c (.int .u64)), .env 9 (.c (.int .u64)), .reg 1 (.cells [.ints .u64 25]), .reg 2 (.cells [.ints .u64 25]), .reg 3 (.cells [.ints .i64 25]), .reg 4 (.cells [.ints .u64 24]), .reg 6 (.cells [.ints .u64 25])], [(1, .env 1 0), (2, .env 2 0), (3, .env 3 0), (4, .env 4 0), (6, .env 6 0)]⟩)]
noncomputable def steps26_2 : Int × Int × Int × Int × Int × (Nat → Int) × (Nat → Int) × (Nat → Int) × (Nat → Int) × (Nat → Int) → Option ((Int × Int × Int × Int × Int × (Nat → Int) × (Nat → Int) × (Nat → Int) × (Nat → Int) × (Nat → Int)) ⊕ ((Int × Int × Int × Int × (Nat → Int) × (Nat → Int) × (Nat → Int) × (Nat → Int) × (Nat → Int))))
  | (t5, t7, t8, t9, t10, r1, r2, r3, r4, r6) =>
    if (decide (t10 < 5)) = true then
      let x3 : Int := (IntKind.i64.wrap (((IntKind.i64.wrap (t7 + 4)).tmod 5) + (IntKind.i64.wrap (5 * t10))))
      if (0 : Int) ≤ x3 ∧ x3 < ((25 : Int) : Int) then
        let x4 : Int := (IntKind.i64.wrap (((IntKind.i64.wrap (t7 + 1)).tmod 5) + (IntKind.i64.wrap (5 * t10))))
        if (0 : Int) ≤ x4 ∧ x4 < ((25 : Int) : Int) then
          some (.inl (t5, t7, (bitsXor .u64 t8 (r1 x3.toNat)), (bitsXor .u64 t9 (r1 x4.toNat)), (IntKind.i64.wrap (t10 + 1)), r1, r2, r3, r4, r6))
        else none
      else none
    else
      some (.inr (t5, t7, t8, t9, r1, r2, r3, r4, r6))

noncomputable def anns26_2 : Ann := .none
abbrev ls26_3 : Lay := ⟨[(1, .ptr 1 0 25), (2, .ptr 2 0 25), (3, .ptr 3 0 25), (4, .ptr 4 0 24), (6, .ptr 6 0 25)], [.env 5 (.c (.int .i64)), .env 7 (.c (.int .i64)), .env 8 (.c (.int .u64)), .env 9 (.c (.int .u64)), .env 11 (.c (.int .i64)), .reg 1 (.cells [.ints .u64 25]), .reg 2 (.cells [.ints .u64 25]), .reg 3 (.cells [.ints .i64 25]), .reg 4 (.cells [.ints .u64 24]), .reg 6 (.cells [.ints .u64 25])], [(1, .env 1 0), (2, .env 2 0), (3, .env 3 0), (4, .env 4 0), (6, .env 6 0)]⟩
abbrev os26_3 : List (AExit × Lay) := [(.exit 6, ⟨[(1, .ptr 1 0 25), (2, .ptr 2 0 25), (3, .ptr 3 0 25), (4, .ptr 4 0 24), (6, .ptr 6 0 25)], [.env 5 (.c (.int .i64)), .env 7 (.c (.int .i64)), .reg 1 (.cells [.ints .u64 25]), .reg 2 (.cells [.ints .u64 25]), .reg 3 (.cells [.ints .i64 25]), .reg 4 (.cells [.ints .u64 24]), .reg 6 (.cells [.ints .u64 25])], [(1, .env 1 0), (2, .env 2 0), (3, .env 3 0), (4, .env 4 0), (6, .env 6 0)]⟩)]
noncomputable def steps26_3 : Int × Int × Int × Int × Int × (Nat → Int) × (Nat → Int) × (Nat → Int) × (Nat → Int) × (Nat → Int) → Option ((Int × Int × Int × Int × Int × (Nat → Int) × (Nat → Int) × (Nat → Int) × (Nat → Int) × (Nat → Int)) ⊕ ((Int × Int × (Nat → Int) × (Nat → Int) × (Nat → Int) × (Nat → Int) × (Nat → Int))))
  | (t5, t7, t8, t9, t11, r1, r2, r3, r4, r6) =>
    if (decide (t11 < 5)) = true then
      if (0 : Int) ≤ (IntKind.i64.wrap (t7 + (IntKind.i64.wrap (5 * t11)))) ∧ (IntKind.i64.wrap (t7 + (IntKind.i64.wrap (5 * t11)))) < ((25 : Int) : Int) then
        let x14 : Int := (r1 (IntKind.i64.wrap (t7 + (IntKind.i64.wrap (5 * t11)))).toNat)
        (Fs32 (t9, 1)).bind fun y15 =>
          if (0 : Int) ≤ (IntKind.i64.wrap (t7 + (IntKind.i64.wrap (5 * t11)))) ∧ (IntKind.i64.wrap (t7 + (IntKind.i64.wrap (5 * t11)))) < ((25 : Int) : Int) then
            let f16 : Nat → Int := (upd r6 (IntKind.i64.wrap (t7 + (IntKind.i64.wrap (5 * t11)))).toNat (bitsXor .u64 (bitsXor .u64 x14 t8) y15))
            some (.inl (t5, t7, t8, t9, (IntKind.i64.wrap (t11 + 1)), r1, r2, r3, r4, f16))
          else none
      else none
    else
      some (.inr (t5, t7, r1, r2, r3, r4, r6))

noncomputable def anns26_3 : Ann := .none
abbrev ls26_1 : Lay := ⟨[(1, .ptr 1 0 25), (2, .ptr 2 0 25), (3, .ptr 3 0 25), (4, .ptr 4 0 24), (6, .ptr 6 0 25)], [.env 5 (.c (.int .i64)), .env 7 (.c (.int .i64)), .reg 1 (.cells [.ints .u64 25]), .reg 2 (.cells [.ints .u64 25]), .reg 3 (.cells [.ints .i64 25]), .reg 4 (.cells [.ints .u64 24]), .reg 6 (.cells [.ints .u64 25])], [(1, .env 1 0), (2, .env 2 0), (3, .env 3 0), (4, .env 4 0), (6, .env 6 0)]⟩
abbrev os26_1 : List (AExit × Lay) := [(.exit 2, ⟨[(1, .ptr 1 0 25), (2, .ptr 2 0 25), (3, .ptr 3 0 25), (4, .ptr 4 0 24), (6, .ptr 6 0 25)], [.env 5 (.c (.int .i64)), .reg 1 (.cells [.ints .u64 25]), .reg 2 (.cells [.ints .u64 25]), .reg 3 (.cells [.ints .i64 25]), .reg 4 (.cells [.ints .u64 24]), .reg 6 (.cells [.ints .u64 25])], [(1, .env 1 0), (2, .env 2 0), (3, .env 3 0), (4, .env 4 0), (6, .env 6 0)]⟩)]
noncomputable def steps26_1 : Int × Int × (Nat → Int) × (Nat → Int) × (Nat → Int) × (Nat → Int) × (Nat → Int) → Option ((Int × Int × (Nat → Int) × (Nat → Int) × (Nat → Int) × (Nat → Int) × (Nat → Int)) ⊕ ((Int × (Nat → Int) × (Nat → Int) × (Nat → Int) × (Nat → Int) × (Nat → Int))))
  | (t5, t7, r1, r2, r3, r4, r6) =>
    if (decide (t7 < 5)) = true then
      (loopO steps26_2 (t5, t7, 0, 0, 0, r1, r2, r3, r4, r6)).bind fun (z5, z6, z7, z8, z9, z10, z11, z12, z13) =>
        (loopO steps26_3 (z5, z6, z7, z8, 0, z9, z10, z11, z12, z13)).bind fun (z17, z18, z19, z20, z21, z22, z23) =>
          some (.inl (z17, (IntKind.i64.wrap (z18 + 1)), z19, z20, z21, z22, z23))
    else
      some (.inr (t5, r1, r2, r3, r4, r6))

noncomputable def anns26_1 : Ann := (.seq .none (.seq (.seq (.seq .none (.seq .none (.seq (.seq .none (.seq (.cut (cutEnt ls26_2 os26_2 (loopO (steps26_2)))) .none)) (.seq .none (.seq (.cut (cutEnt ls26_3 os26_3 (loopO (steps26_3)))) .none))))) .none) .none))
abbrev ls26_5 : Lay := ⟨[(1, .ptr 1 0 25), (2, .ptr 2 0 25), (3, .ptr 3 0 25), (4, .ptr 4 0 24), (6, .ptr 6 0 25), (12, .ptr 12 0 25)], [.env 5 (.c (.int .i64)), .env 13 (.c (.int .i64)), .env 14 (.c (.int .i64)), .reg 1 (.cells [.ints .u64 25]), .reg 2 (.cells [.ints .u64 25]), .reg 3 (.cells [.ints .i64 25]), .reg 4 (.cells [.ints .u64 24]), .reg 6 (.cells [.ints .u64 25]), .reg 12 (.cells [.ints .u64 25])], [(1, .env 1 0), (2, .env 2 0), (3, .env 3 0), (4, .env 4 0), (6, .env 6 0), (12, .env 12 0)]⟩
abbrev os26_5 : List (AExit × Lay) := [(.exit 10, ⟨[(1, .ptr 1 0 25), (2, .ptr 2 0 25), (3, .ptr 3 0 25), (4, .ptr 4 0 24), (6, .ptr 6 0 25), (12, .ptr 12 0 25)], [.env 5 (.c (.int .i64)), .env 13 (.c (.int .i64)), .reg 1 (.cells [.ints .u64 25]), .reg 2 (.cells [.ints .u64 25]), .reg 3 (.cells [.ints .i64 25]), .reg 4 (.cells [.ints .u64 24]), .reg 6 (.cells [.ints .u64 25]), .reg 12 (.cells [.ints .u64 25])], [(1, .env 1 0), (2, .env 2 0), (3, .env 3 0), (4, .env 4 0), (6, .env 6 0), (12, .env 12 0)]⟩)]
noncomputable def steps26_5 : Int × Int × Int × (Nat → Int) × (Nat → Int) × (Nat → Int) × (Nat → Int) × (Nat → Int) × (Nat → Int) → Option ((Int × Int × Int × (Nat → Int) × (Nat → Int) × (Nat → Int) × (Nat → Int) × (Nat → Int) × (Nat → Int)) ⊕ ((Int × Int × (Nat → Int) × (Nat → Int) × (Nat → Int) × (Nat → Int) × (Nat → Int) × (Nat → Int))))
  | (t5, t13, t14, r1, r2, r3, r4, r6, r12) =>
    if (decide (t14 < 5)) = true then
      let x30 : Int := (IntKind.i64.wrap ((IntKind.i64.wrap (2 * t13)) + (IntKind.i64.wrap (3 * t14))))
      let x31 : Int := (IntKind.i64.wrap (t14 + (IntKind.i64.wrap (5 * (x30.tmod 5)))))
      if (0 : Int) ≤ (IntKind.i64.wrap (t13 + (IntKind.i64.wrap (5 * t14)))) ∧ (IntKind.i64.wrap (t13 + (IntKind.i64.wrap (5 * t14)))) < ((25 : Int) : Int) then
        let x32 : Nat := (IntKind.i64.wrap (t13 + (IntKind.i64.wrap (5 * t14)))).toNat
        if (0 : Int) ≤ (IntKind.i64.wrap (t13 + (IntKind.i64.wrap (5 * t14)))) ∧ (IntKind.i64.wrap (t13 + (IntKind.i64.wrap (5 * t14)))) < ((25 : Int) : Int) then
          let x33 : Nat := (IntKind.i64.wrap (t13 + (IntKind.i64.wrap (5 * t14)))).toNat
          (Fs32 ((r6 x32), (r3 x33))).bind fun y34 =>
            if (0 : Int) ≤ x31 ∧ x31 < ((25 : Int) : Int) then
              some (.inl (t5, t13, (IntKind.i64.wrap (t14 + 1)), r1, r2, r3, r4, r6, (upd r12 x31.toNat y34)))
            else none
        else none
      else none
    else
      some (.inr (t5, t13, r1, r2, r3, r4, r6, r12))

noncomputable def anns26_5 : Ann := .none
abbrev ls26_4 : Lay := ⟨[(1, .ptr 1 0 25), (2, .ptr 2 0 25), (3, .ptr 3 0 25), (4, .ptr 4 0 24), (6, .ptr 6 0 25), (12, .ptr 12 0 25)], [.env 5 (.c (.int .i64)), .env 13 (.c (.int .i64)), .reg 1 (.cells [.ints .u64 25]), .reg 2 (.cells [.ints .u64 25]), .reg 3 (.cells [.ints .i64 25]), .reg 4 (.cells [.ints .u64 24]), .reg 6 (.cells [.ints .u64 25]), .reg 12 (.cells [.ints .u64 25])], [(1, .env 1 0), (2, .env 2 0), (3, .env 3 0), (4, .env 4 0), (6, .env 6 0), (12, .env 12 0)]⟩
abbrev os26_4 : List (AExit × Lay) := [(.exit 8, ⟨[(1, .ptr 1 0 25), (2, .ptr 2 0 25), (3, .ptr 3 0 25), (4, .ptr 4 0 24), (12, .ptr 12 0 25)], [.env 5 (.c (.int .i64)), .reg 1 (.cells [.ints .u64 25]), .reg 2 (.cells [.ints .u64 25]), .reg 3 (.cells [.ints .i64 25]), .reg 4 (.cells [.ints .u64 24]), .reg 12 (.cells [.ints .u64 25])], [(1, .env 1 0), (2, .env 2 0), (3, .env 3 0), (4, .env 4 0), (12, .env 12 0)]⟩)]
noncomputable def steps26_4 : Int × Int × (Nat → Int) × (Nat → Int) × (Nat → Int) × (Nat → Int) × (Nat → Int) × (Nat → Int) → Option ((Int × Int × (Nat → Int) × (Nat → Int) × (Nat → Int) × (Nat → Int) × (Nat → Int) × (Nat → Int)) ⊕ ((Int × (Nat → Int) × (Nat → Int) × (Nat → Int) × (Nat → Int) × (Nat → Int))))
  | (t5, t13, r1, r2, r3, r4, r6, r12) =>
    if (decide (t13 < 5)) = true then
      (loopO steps26_5 (t5, t13, 0, r1, r2, r3, r4, r6, r12)).bind fun (z35, z36, z37, z38, z39, z40, z41, z42) =>
        some (.inl (z35, (IntKind.i64.wrap (z36 + 1)), z37, z38, z39, z40, z41, z42))
    else
      some (.inr (t5, r1, r2, r3, r4, r12))

noncomputable def anns26_4 : Ann := (.seq .none (.seq (.seq (.seq .none (.seq (.cut (cutEnt ls26_5 os26_5 (loopO (steps26_5)))) .none)) .none) .none))
abbrev ls26_7 : Lay := ⟨[(1, .ptr 1 0 25), (2, .ptr 2 0 25), (3, .ptr 3 0 25), (4, .ptr 4 0 24), (12, .ptr 12 0 25)], [.env 5 (.c (.int .i64)), .env 15 (.c (.int .i64)), .env 16 (.c (.int .i64)), .reg 1 (.cells [.ints .u64 25]), .reg 2 (.cells [.ints .u64 25]), .reg 3 (.cells [.ints .i64 25]), .reg 4 (.cells [.ints .u64 24]), .reg 12 (.cells [.ints .u64 25])], [(1, .env 1 0), (2, .env 2 0), (3, .env 3 0), (4, .env 4 0), (12, .env 12 0)]⟩
abbrev os26_7 : List (AExit × Lay) := [(.exit 14, ⟨[(1, .ptr 1 0 25), (2, .ptr 2 0 25), (3, .ptr 3 0 25), (4, .ptr 4 0 24), (12, .ptr 12 0 25)], [.env 5 (.c (.int .i64)), .env 15 (.c (.int .i64)), .reg 1 (.cells [.ints .u64 25]), .reg 2 (.cells [.ints .u64 25]), .reg 3 (.cells [.ints .i64 25]), .reg 4 (.cells [.ints .u64 24]), .reg 12 (.cells [.ints .u64 25])], [(1, .env 1 0), (2, .env 2 0), (3, .env 3 0), (4, .env 4 0), (12, .env 12 0)]⟩)]
noncomputable def steps26_7 : Int × Int × Int × (Nat → Int) × (Nat → Int) × (Nat → Int) × (Nat → Int) × (Nat → Int) → Option ((Int × Int × Int × (Nat → Int) × (Nat → Int) × (Nat → Int) × (Nat → Int) × (Nat → Int)) ⊕ ((Int × Int × (Nat → Int) × (Nat → Int) × (Nat → Int) × (Nat → Int) × (Nat → Int))))
  | (t5, t15, t16, r1, r2, r3, r4, r12) =>
    if (decide (t16 < 5)) = true then
      if (0 : Int) ≤ (IntKind.i64.wrap (t15 + (IntKind.i64.wrap (5 * t16)))) ∧ (IntKind.i64.wrap (t15 + (IntKind.i64.wrap (5 * t16)))) < ((25 : Int) : Int) then
        let x49 : Nat := (IntKind.i64.wrap (t15 + (IntKind.i64.wrap (5 * t16)))).toNat
        let x50 : Int := (IntKind.i64.wrap (((IntKind.i64.wrap (t15 + 1)).tmod 5) + (IntKind.i64.wrap (5 * t16))))
        if (0 : Int) ≤ x50 ∧ x50 < ((25 : Int) : Int) then
          let x51 : Int := (IntKind.i64.wrap (((IntKind.i64.wrap (t15 + 2)).tmod 5) + (IntKind.i64.wrap (5 * t16))))
          if (0 : Int) ≤ x51 ∧ x51 < ((25 : Int) : Int) then
            let x52 : Int := (bitsXor .u64 (r12 x49) (bitsAnd .u64 (notI .u64 (r12 x50.toNat)) (r12 x51.toNat)))
            if (0 : Int) ≤ (IntKind.i64.wrap (t15 + (IntKind.i64.wrap (5 * t16)))) ∧ (IntKind.i64.wrap (t15 + (IntKind.i64.wrap (5 * t16)))) < ((25 : Int) : Int) then
              let x53 : Nat := (IntKind.i64.wrap (t15 + (IntKind.i64.wrap (5 * t16)))).toNat
              some (.inl (t5, t15, (IntKind.i64.wrap (t16 + 1)), (upd r1 x53 x52), r2, r3, r4, r12))
            else none
          else none
        else none
      else none
    else
      some (.inr (t5, t15, r1, r2, r3, r4, r12))

noncomputable def anns26_7 : Ann := .none
abbrev ls26_6 : Lay := ⟨[(1, .ptr 1 0 25), (2, .ptr 2 0 25), (3, .ptr 3 0 25), (4, .ptr 4 0 24), (12, .ptr 12 0 25)], [.env 5 (.c (.int .i64)), .env 15 (.c (.int .i64)), .reg 1 (.cells [.ints .u64 25]), .reg 2 (.cells [.ints .u64 25]), .reg 3 (.cells [.ints .i64 25]), .reg 4 (.cells [.ints .u64 24]), .reg 12 (.cells [.ints .u64 25])], [(1, .env 1 0), (2, .env 2 0), (3, .env 3 0), (4, .env 4 0), (12, .env 12 0)]⟩
abbrev os26_6 : List (AExit × Lay) := [(.exit 12, ⟨[(1, .ptr 1 0 25), (2, .ptr 2 0 25), (3, .ptr 3 0 25), (4, .ptr 4 0 24)], [.env 5 (.c (.int .i64)), .reg 1 (.cells [.ints .u64 25]), .reg 2 (.cells [.ints .u64 25]), .reg 3 (.cells [.ints .i64 25]), .reg 4 (.cells [.ints .u64 24])], [(1, .env 1 0), (2, .env 2 0), (3, .env 3 0), (4, .env 4 0)]⟩)]
noncomputable def steps26_6 : Int × Int × (Nat → Int) × (Nat → Int) × (Nat → Int) × (Nat → Int) × (Nat → Int) → Option ((Int × Int × (Nat → Int) × (Nat → Int) × (Nat → Int) × (Nat → Int) × (Nat → Int)) ⊕ ((Int × (Nat → Int) × (Nat → Int) × (Nat → Int) × (Nat → Int))))
  | (t5, t15, r1, r2, r3, r4, r12) =>
    if (decide (t15 < 5)) = true then
      (loopO steps26_7 (t5, t15, 0, r1, r2, r3, r4, r12)).bind fun (z54, z55, z56, z57, z58, z59, z60) =>
        some (.inl (z54, (IntKind.i64.wrap (z55 + 1)), z56, z57, z58, z59, z60))
    else
      some (.inr (t5, r1, r2, r3, r4))

noncomputable def anns26_6 : Ann := (.seq .none (.seq (.seq (.seq .none (.seq (.cut (cutEnt ls26_7 os26_7 (loopO (steps26_7)))) .none)) .none) .none))
abbrev ls26_0 : Lay := ⟨[(1, .ptr 1 0 25), (2, .ptr 2 0 25), (3, .ptr 3 0 25), (4, .ptr 4 0 24)], [.env 5 (.c (.int .i64)), .reg 1 (.cells [.ints .u64 25]), .reg 2 (.cells [.ints .u64 25]), .reg 3 (.cells [.ints .i64 25]), .reg 4 (.cells [.ints .u64 24])], [(1, .env 1 0), (2, .env 2 0), (3, .env 3 0), (4, .env 4 0)]⟩
abbrev os26_0 : List (AExit × Lay) := [(.exit 0, ⟨[(1, .ptr 1 0 25), (2, .ptr 2 0 25)], [.reg 1 (.cells [.ints .u64 25]), .reg 2 (.cells [.ints .u64 25])], [(1, .env 1 0), (2, .env 2 0)]⟩)]
noncomputable def steps26_0 : Int × (Nat → Int) × (Nat → Int) × (Nat → Int) × (Nat → Int) → Option ((Int × (Nat → Int) × (Nat → Int) × (Nat → Int) × (Nat → Int)) ⊕ (((Nat → Int) × (Nat → Int))))
  | (t5, r1, r2, r3, r4) =>
    if (decide (t5 < 24)) = true then
      (loopO steps26_1 (t5, 0, r1, r2, r3, r4, (fun _ => 0))).bind fun (z24, z25, z26, z27, z28, z29) =>
        (loopO steps26_4 (z24, 0, z25, z26, z27, z28, z29, (fun _ => 0))).bind fun (z43, z44, z45, z46, z47, z48) =>
          (loopO steps26_6 (z43, 0, z44, z45, z46, z47, z48)).bind fun (z61, z62, z63, z64, z65) =>
            if (0 : Int) ≤ z61 ∧ z61 < ((24 : Int) : Int) then
              some (.inl ((IntKind.i64.wrap (z61 + 1)), (upd z62 0 (bitsXor .u64 (z62 0) (z65 z61.toNat))), z63, z64, z65))
            else none
    else
      some (.inr (r1, r2))

noncomputable def anns26_0 : Ann := (.seq .none (.seq (.seq (.seq .none (.seq (.seq .none (.seq (.cut (cutEnt ls26_1 os26_1 (loopO (steps26_1)))) .none)) (.seq .none (.seq (.seq .none (.seq (.cut (cutEnt ls26_4 os26_4 (loopO (steps26_4)))) .none)) (.seq (.seq .none (.seq (.cut (cutEnt ls26_6 os26_6 (loopO (steps26_6)))) .none)) .none))))) .none) .none))
noncomputable def Fs26 : (Nat → Int) → Option (((Nat → Int)))
  | a0 =>
    (Fs30 ()).bind fun y1 =>
      (Fs31 ()).bind fun y2 =>
        (loopO steps26_0 (0, a0, (fun _ => 0), y1, y2)).bind fun (z66, z67) =>
          some z66

noncomputable def anns26 : Ann := (.seq .none (.seq .none (.seq .none (.seq (.seq .none (.seq (.cut (cutEnt ls26_0 os26_0 (loopO (steps26_0)))) .none)) .none))))
theorem eqs26_2 : ∀ s : ls26_2.T, exec stab (ofL Es32) 148 (Code.at' [1, 1, 1, 0, 1, 0, 0, 1, 0, 0, 1, 0, 1, 0, 0, 1, 0, 0, 1, 1, 0, 1, 0, 0] bodys26) anns26_2 (fun e st => loopEnd (l := ls26_2) (outs := os26_2) e st) (ls26_2.enc s) = steps26_2 s := by
  rintro ⟨t5, t7, t8, t9, t10, r1, r2, r3, r4, r6⟩
  kernel_rfl
theorem oks26_2 : LOk Go.Proofs.Try.prog 148 (cutEnt ls26_2 os26_2 (loopO steps26_2)) (Code.at' [1, 1, 1, 0, 1, 0, 0, 1, 0, 0, 1, 0, 1, 0, 0, 1, 0, 0, 1, 1, 0, 1, 0] bodys26) := by
  have e : Code.at' [1, 1, 1, 0, 1, 0, 0, 1, 0, 0, 1, 0, 1, 0, 0, 1, 0, 0, 1, 1, 0, 1, 0] bodys26 = .loop (Code.at' [1, 1, 1, 0, 1, 0, 0, 1, 0, 0, 1, 0, 1, 0, 0, 1, 0, 0, 1, 1, 0, 1, 0, 0] bodys26) := by kernel_rfl
  rw [e]
  refine loop_ok cs26 148 rfl rfl (annOk_of_cuts ?_) eqs26_2
  intro x hx
  exact absurd hx (by show x ∉ ([] : List (List Nat × LEnt)); simp)

theorem eqs26_3 : ∀ s : ls26_3.T, exec stab (ofL Es32) 148 (Code.at' [1, 1, 1, 0, 1, 0, 0, 1, 0, 0, 1, 0, 1, 0, 0, 1, 0, 0, 1, 1, 1, 1, 0, 0] bodys26) anns26_3 (fun e st => loopEnd (l := ls26_3) (outs := os26_3) e st) (ls26_3.enc s) = steps26_3 s := by
  rintro ⟨t5, t7, t8, t9, t11, r1, r2, r3, r4, r6⟩
  kernel_rfl
theorem oks26_3 : LOk Go.Proofs.Try.prog 148 (cutEnt ls26_3 os26_3 (loopO steps26_3)) (Code.at' [1, 1, 1, 0, 1, 0, 0, 1, 0, 0, 1, 0, 1, 0, 0, 1, 0, 0, 1, 1, 1, 1, 0] bodys26) := by
  have e : Code.at' [1, 1, 1, 0, 1, 0, 0, 1, 0, 0, 1, 0, 1, 0, 0, 1, 0, 0, 1, 1, 1, 1, 0] bodys26 = .loop (Code.at' [1, 1, 1, 0, 1, 0, 0, 1, 0, 0, 1, 0, 1, 0, 0, 1, 0, 0, 1, 1, 1, 1, 0, 0] bodys26) := by kernel_rfl
  rw [e]
  refine loop_ok cs26 148 rfl rfl (annOk_of_cuts ?_) eqs26_3
  intro x hx
  exact absurd hx (by show x ∉ ([] : List (List Nat × LEnt)); simp)

theorem eqs26_1 : ∀ s : ls26_1.T, exec stab (ofL Es32) 148 (Code.at' [1, 1, 1, 0, 1, 0, 0, 1, 0, 0, 1, 0, 1, 0, 0] bodys26) anns26_1 (fun e st => loopEnd (l := ls26_1) (outs := os26_1) e st) (ls26_1.enc s) = steps26_1 s := by
  rintro ⟨t5, t7, r1, r2, r3, r4, r6⟩
  kernel_rfl
theorem oks26_1 : LOk Go.Proofs.Try.prog 148 (cutEnt ls26_1 os26_1 (loopO steps26_1)) (Code.at' [1, 1, 1, 0, 1, 0, 0, 1, 0, 0, 1, 0, 1, 0] bodys26) := by
  have e : Code.at' [1, 1, 1, 0, 1, 0, 0, 1, 0, 0, 1, 0, 1, 0] bodys26 = .loop (Code.at' [1, 1, 1, 0, 1, 0, 0, 1, 0, 0, 1, 0, 1, 0, 0] bodys26) := by kernel_rfl
  rw [e]
  refine loop_ok cs26 148 rfl rfl (annOk_of_cuts ?_) eqs26_1
  have hc : Ann.cuts anns26_1 = [([1, 0, 0, 1, 1, 0, 1, 0], (cutEnt ls26_2 os26_2 (loopO (steps26_2)))), ([1, 0, 0, 1, 1, 1, 1, 0], (cutEnt ls26_3 os26_3 (loopO (steps26_3))))] := by kernel_rfl
  rw [hc]
  intro x hx
  simp only [List.mem_cons, List.not_mem_nil, or_false] at hx
  rcases hx with rfl | rfl
  · have e : Code.at' [1, 0, 0, 1, 1, 0, 1, 0] (Code.at' [1, 1, 1, 0, 1, 0, 0, 1, 0, 0, 1, 0, 1, 0, 0] bodys26) = Code.at' [1, 1, 1, 0, 1, 0, 0, 1, 0, 0, 1, 0, 1, 0, 0, 1, 0, 0, 1, 1, 0, 1, 0] bodys26 := by kernel_rfl
    rw [e]; exact oks26_2
  · have e : Code.at' [1, 0, 0, 1, 1, 1, 1, 0] (Code.at' [1, 1, 1, 0, 1, 0, 0, 1, 0, 0, 1, 0, 1, 0, 0] bodys26) = Code.at' [1, 1, 1, 0, 1, 0, 0, 1, 0, 0, 1, 0, 1, 0, 0, 1, 0, 0, 1, 1, 1, 1, 0] bodys26 := by kernel_rfl
    rw [e]; exact oks26_3

theorem eqs26_5 : ∀ s : ls26_5.T, exec stab (ofL Es32) 148 (Code.at' [1, 1, 1, 0, 1, 0, 0, 1, 0, 0, 1, 1, 1, 0, 1, 0, 0, 1, 0, 0, 1, 0, 0] bodys26) anns26_5 (fun e st => loopEnd (l := ls26_5) (outs := os26_5) e st) (ls26_5.enc s) = steps26_5 s := by
  rintro ⟨t5, t13, t14, r1, r2, r3, r4, r6, r12⟩
  kernel_rfl
theorem oks26_5 : LOk Go.Proofs.Try.prog 148 (cutEnt ls26_5 os26_5 (loopO steps26_5)) (Code.at' [1, 1, 1, 0, 1, 0, 0, 1, 0, 0, 1, 1, 1, 0, 1, 0, 0, 1, 0, 0, 1, 0] bodys26) := by
  have e : Code.at' [1, 1, 1, 0, 1, 0, 0, 1, 0, 0, 1, 1, 1, 0, 1, 0, 0, 1, 0, 0, 1, 0] bodys26 = .loop (Code.at' [1, 1, 1, 0, 1, 0, 0, 1, 0, 0, 1, 1, 1, 0, 1, 0, 0, 1, 0, 0, 1, 0, 0] bodys26) := by kernel_rfl
  rw [e]
  refine loop_ok cs26 148 rfl rfl (annOk_of_cuts ?_) eqs26_5
  intro x hx
  exact absurd hx (by show x ∉ ([] : List (List Nat × LEnt)); simp)

theorem eqs26_4 : ∀ s : ls26_4.T, exec stab (ofL Es32) 148 (Code.at' [1, 1, 1, 0, 1, 0, 0, 1, 0, 0, 1, 1, 1, 0, 1, 0, 0] bodys26) anns26_4 (fun e st => loopEnd (l := ls26_4) (outs := os26_4) e st) (ls26_4.enc s) = steps26_4 s := by
  rintro ⟨t5, t13, r1, r2, r3, r4, r6, r12⟩
  kernel_rfl
theorem oks26_4 : LOk Go.Proofs.Try.prog 148 (cutEnt ls26_4 os26_4 (loopO steps26_4)) (Code.at' [1, 1, 1, 0, 1, 0, 0, 1, 0, 0, 1, 1, 1, 0, 1, 0] bodys26) := by
  have e : Code.at' [1, 1, 1, 0, 1, 0, 0, 1, 0, 0, 1, 1, 1, 0, 1, 0] bodys26 = .loop (Code.at' [1, 1, 1, 0, 1, 0, 0, 1, 0, 0, 1, 1, 1, 0, 1, 0, 0] bodys26) := by kernel_rfl
  rw [e]
  refine loop_ok cs26 148 rfl rfl (annOk_of_cuts ?_) eqs26_4
  have hc : Ann.cuts anns26_4 = [([1, 0, 0, 1, 0], (cutEnt ls26_5 os26_5 (loopO (steps26_5))))] := by kernel_rfl
  rw [hc]
  intro x hx
  simp only [List.mem_cons, List.not_mem_nil, or_false] at hx
  rcases hx with rfl
  · have e : Code.at' [1, 0, 0, 1, 0] (Code.at' [1, 1, 1, 0, 1, 0, 0, 1, 0, 0, 1, 1, 1, 0, 1, 0, 0] bodys26) = Code.at' [1, 1, 1, 0, 1, 0, 0, 1, 0, 0, 1, 1, 1, 0, 1, 0, 0, 1, 0, 0, 1, 0] bodys26 := by kernel_rfl
    rw [e]; exact oks26_5

theorem eqs26_7 : ∀ s : ls26_7.T, exec stab (ofL Es32) 148 (Code.at' [1, 1, 1, 0, 1, 0, 0, 1, 0, 0, 1, 1, 1, 1, 0, 1, 0, 0, 1, 0, 0, 1, 0, 0] bodys26) anns26_7 (fun e st => loopEnd (l := ls26_7) (outs := os26_7) e st) (ls26_7.enc s) = steps26_7 s := by
  rintro ⟨t5, t15, t16, r1, r2, r3, r4, r12⟩
  kernel_rfl
theorem oks26_7 : LOk Go.Proofs.Try.prog 148 (cutEnt ls26_7 os26_7 (loopO steps26_7)) (Code.at' [1, 1, 1, 0, 1, 0, 0, 1, 0, 0, 1, 1, 1, 1, 0, 1, 0, 0, 1, 0, 0, 1, 0] bodys26) := by
  have e : Code.at' [1, 1, 1, 0, 1, 0, 0, 1, 0, 0, 1, 1, 1, 1, 0, 1, 0, 0, 1, 0, 0, 1, 0] bodys26 = .loop (Code.at' [1, 1, 1, 0, 1, 0, 0, 1, 0, 0, 1, 1, 1, 1, 0, 1, 0, 0, 1, 0, 0, 1, 0, 0] bodys26) := by kernel_rfl
  rw [e]
  refine loop_ok cs26 148 rfl rfl (annOk_of_cuts ?_) eqs26_7
  intro x hx
  exact absurd hx (by show x ∉ ([] : List (List Nat × LEnt)); simp)

theorem eqs26_6 : ∀ s : ls26_6.T, exec stab (ofL Es32) 148 (Code.at' [1, 1, 1, 0, 1, 0, 0, 1, 0, 0, 1, 1, 1, 1, 0, 1, 0, 0] bodys26) anns26_6 (fun e st => loopEnd (l := ls26_6) (outs := os26_6) e st) (ls26_6.enc s) = steps26_6 s := by
  rintro ⟨t5, t15, r1, r2, r3, r4, r12⟩
  kernel_rfl
theorem oks26_6 : LOk Go.Proofs.Try.prog 148 (cutEnt ls26_6 os26_6 (loopO steps26_6)) (Code.at' [1, 1, 1, 0, 1, 0, 0, 1, 0, 0, 1, 1, 1, 1, 0, 1, 0] bodys26) := by
  have e : Code.at' [1, 1, 1, 0, 1, 0, 0, 1, 0, 0, 1, 1, 1, 1, 0, 1, 0] bodys26 = .loop (Code.at' [1, 1, 1, 0, 1, 0, 0, 1, 0, 0, 1, 1, 1, 1, 0, 1, 0, 0] bodys26) := by kernel_rfl
  rw [e]
  refine loop_ok cs26 148 rfl rfl (annOk_of_cuts ?_) eqs26_6
  have hc : Ann.cuts anns26_6 = [([1, 0, 0, 1, 0], (cutEnt ls26_7 os26_7 (loopO (steps26_7))))] := by kernel_rfl
  rw [hc]
  intro x hx
  simp only [List.mem_cons, List.not_mem_nil, or_false] at hx
  rcases hx with rfl
  · have e : Code.at' [1, 0, 0, 1, 0] (Code.at' [1, 1, 1, 0, 1, 0, 0, 1, 0, 0, 1, 1, 1, 1, 0, 1, 0, 0] bodys26) = Code.at' [1, 1, 1, 0, 1, 0, 0, 1, 0, 0, 1, 1, 1, 1, 0, 1, 0, 0, 1, 0, 0, 1, 0] bodys26 := by kernel_rfl
    rw [e]; exact oks26_7

theorem eqs26_0 : ∀ s : ls26_0.T, exec stab (ofL Es32) 148 (Code.at' [1, 1, 1, 0, 1, 0, 0] bodys26) anns26_0 (fun e st => loopEnd (l := ls26_0) (outs := os26_0) e st) (ls26_0.enc s) = steps26_0 s := by
  rintro ⟨t5, r1, r2, r3, r4⟩
  kernel_rfl
theorem oks26_0 : LOk Go.Proofs.Try.prog 148 (cutEnt ls26_0 os26_0 (loopO steps26_0)) (Code.at' [1, 1, 1, 0, 1, 0] bodys26) := by
  have e : Code.at' [1, 1, 1, 0, 1, 0] bodys26 = .loop (Code.at' [1, 1, 1, 0, 1, 0, 0] bodys26) := by kernel_rfl
  rw [e]
  refine loop_ok cs26 148 rfl rfl (annOk_of_cuts ?_) eqs26_0
  have hc : Ann.cuts anns26_0 = [([1, 0, 0, 1, 0, 1, 0], (cutEnt ls26_1 os26_1 (loopO (steps26_1)))), ([1, 0, 0, 1, 1, 1, 0, 1, 0], (cutEnt ls26_4 os26_4 (loopO (steps26_4)))), ([1, 0, 0, 1, 1, 1, 1, 0, 1, 0], (cutEnt ls26_6 os26_6 (loopO (steps26_6))))] := by kernel_rfl
  rw [hc]
  intro x hx
  simp only [List.mem_cons, List.not_mem_nil, or_false] at hx
  rcases hx with rfl | rfl | rfl
  · have e : Code.at' [1, 0, 0, 1, 0, 1, 0] (Code.at' [1, 1, 1, 0, 1, 0, 0] bodys26) = Code.at' [1, 1, 1, 0, 1, 0, 0, 1, 0, 0, 1, 0, 1, 0] bodys26 := by kernel_rfl
    rw [e]; exact oks26_1
  · have e : Code.at' [1, 0, 0, 1, 1, 1, 0, 1, 0] (Code.at' [1, 1, 1, 0, 1, 0, 0] bodys26) = Code.at' [1, 1, 1, 0, 1, 0, 0, 1, 0, 0, 1, 1, 1, 0, 1, 0] bodys26 := by kernel_rfl
    rw [e]; exact oks26_4
  · have e : Code.at' [1, 0, 0, 1, 1, 1, 1, 0, 1, 0] (Code.at' [1, 1, 1, 0, 1, 0, 0] bodys26) = Code.at' [1, 1, 1, 0, 1, 0, 0, 1, 0, 0, 1, 1, 1, 1, 0, 1, 0] bodys26 := by kernel_rfl
    rw [e]; exact oks26_6

theorem eqs26 : ∀ x : Ss26.inT, exec stab (ofL Es32) 148 bodys26 anns26 (finL stab Ss26) (Ss26.inp.enc x) = Fs26 x := by
  intro x
  kernel_rfl
theorem callss26 : CallsL Go.Proofs.Try.prog 26 Ss26 Fs26 := by
  refine fun_callsL (fn := Go.Proofs.Try.f26) (c := bodys26) (ann := anns26) cs26 (by kernel_rfl) (by kernel_rfl) (by kernel_rfl) (by kernel_rfl) (by kernel_rfl) (annOk_of_cuts ?_) eqs26
  have hc : Ann.cuts anns26 = [([1, 1, 1, 0, 1, 0], (cutEnt ls26_0 os26_0 (loopO (steps26_0))))] := by kernel_rfl
  rw [hc]
  intro x hx
  simp only [List.mem_cons, List.not_mem_nil, or_false] at hx
  rcases hx with rfl
  · have e : Code.at' [1, 1, 1, 0, 1, 0] bodys26 = Code.at' [1, 1, 1, 0, 1, 0] bodys26 := by kernel_rfl
    rw [e]; exact oks26_0

theorem ents26 : EntOk Go.Proofs.Try.prog 26 (funEntL Ss26 true Fs26) := fun_okL (fn := Go.Proofs.Try.f26) (c := bodys26) (by kernel_rfl) (by kernel_rfl) (by kernel_rfl) (by kernel_rfl) callss26
noncomputable def Es26 : List (Nat × Ent) := (26, funEntL Ss26 true Fs26) :: Es32
theorem Es26_ok : EntsOk Go.Proofs.Try.prog (ofL Es26) := .cons ents26 Es32_ok

/-! ### (*barbican/barbicanref03.Sponge).begin -/
noncomputable def bodys25 : Code := (Go.Proofs.Try.f25.body).getD .skip
abbrev Ss25 : FL := ⟨⟨[(0, .ptr 1000000 0 30)], [.reg 1000000 (.cells [.int .i64, .fz (.int .u8), .bool, .int .i64, .ints .u64 25, .int .i64])], [(1000000, .env 0 0)]⟩, 1, [(.ret, ⟨[], [.reg 1000000 (.cells [.int .i64, .fz (.int .u8), .bool, .int .i64, .ints .u64 25, .int .i64])], []⟩)], [], true⟩
noncomputable def cs25 : Ctx Go.Proofs.Try.prog := ⟨stab, ofL Es26, stabOk, Es26_ok, sdep, sord⟩
abbrev ls25_0 : Lay := ⟨[(0, .ptr 1000000 0 30), (6, .full 28)], [.env 2 (.c (.int .i64)), .reg 1000000 (.cells [.int .i64, .fz (.int .u8), .bool, .int .i64, .ints .u64 25, .int .i64]), .reg 28 (.row 5 .u8)], [(28, .env 6 0)]⟩
abbrev os25_0 : List (AExit × Lay) := [(.exit 0, ⟨[(0, .ptr 1000000 0 30), (6, .full 28)], [.env 2 (.c (.int .i64)), .reg 1000000 (.cells [.int .i64, .fz (.int .u8), .bool, .int .i64, .ints .u64 25, .int .i64]), .reg 28 (.row 5 .u8)], [(28, .env 6 0)]⟩)]
noncomputable def steps25_0 : Int × (Int × (List Int) × Bool × Int × (Nat → Int) × Int) × List Int → Option ((Int × (Int × (List Int) × Bool × Int × (Nat → Int) × Int) × List Int) ⊕ ((Int × (Int × (List Int) × Bool × Int × (Nat → Int) × Int) × List Int)))
  | (t2, r1000000, r28) =>
    if t2 ≠ 0 then
      if (((r28.length : Int).tmod t2) != 0) = true then
        if okBytes (r28.length + ((List.replicate 1 (0 : Int)).set 0 0).length) 1 then
          some (.inl (t2, (r1000000.1, r1000000.2.1, r1000000.2.2.1, r1000000.2.2.2.1, r1000000.2.2.2.2.1, r1000000.2.2.2.2.2), (r28 ++ ((List.replicate 1 (0 : Int)).set 0 0))))
        else none
      else
        some (.inr (t2, (r1000000.1, r1000000.2.1, r1000000.2.2.1, r1000000.2.2.2.1, r1000000.2.2.2.2.1, r1000000.2.2.2.2.2), r28))
    else none

noncomputable def anns25_0 : Ann := .none
abbrev ls25_2 : Lay := ⟨[(0, .ptr 1000000 0 30), (6, .full 28)], [.env 2 (.c (.int .i64)), .env 7 (.c (.int .i64)), .env 8 (.c (.int .i64)), .reg 1000000 (.cells [.int .i64, .fz (.int .u8), .bool, .int .i64, .ints .u64 25, .int .i64]), .reg 28 (.row 5 .u8)], [(28, .env 6 0)]⟩
abbrev os25_2 : List (AExit × Lay) := [(.exit 4, ⟨[(0, .ptr 1000000 0 30), (6, .full 28)], [.env 2 (.c (.int .i64)), .env 7 (.c (.int .i64)), .reg 1000000 (.cells [.int .i64, .fz (.int .u8), .bool, .int .i64, .ints .u64 25, .int .i64]), .reg 28 (.row 5 .u8)], [(28, .env 6 0)]⟩)]
noncomputable def steps25_2 : Int × Int × Int × (Int × (List Int) × Bool × Int × (Nat → Int) × Int) × List Int → Option ((Int × Int × Int × (Int × (List Int) × Bool × Int × (Nat → Int) × Int) × List Int) ⊕ ((Int × Int × (Int × (List Int) × Bool × Int × (Nat → Int) × Int) × List Int)))
  | (t2, t7, t8, r1000000, r28) =>
    if (decide (t8 < t2)) = true then
      if (0 : Int) ≤ (IntKind.i64.wrap (t8.tdiv 8)) ∧ (IntKind.i64.wrap (t8.tdiv 8)) < ((25 : Int) : Int) then
        if (0 : Int) ≤ (IntKind.i64.wrap (t7 + t8)) ∧ (IntKind.i64.wrap (t7 + t8)) < (r28.length : Int) then
          let x10 : Int := (IntKind.u64.wrap (r28.getD (IntKind.i64.wrap (t7 + t8)).toNat 0))
          if 0 ≤ (IntKind.u64.wrap (IntKind.i64.wrap ((t8.tmod 8) * 8))) then
            let x11 : Int := (shlI .u64 x10 (IntKind.u64.wrap (IntKind.i64.wrap ((t8.tmod 8) * 8))))
            let x12 : Int := (bitsXor .u64 (r1000000.2.2.2.2.1 (IntKind.i64.wrap (t8.tdiv 8)).toNat) x11)
            if (0 : Int) ≤ (IntKind.i64.wrap (t8.tdiv 8)) ∧ (IntKind.i64.wrap (t8.tdiv 8)) < ((25 : Int) : Int) then
              let f13 : Nat → Int := (upd r1000000.2.2.2.2.1 (IntKind.i64.wrap (t8.tdiv 8)).toNat x12)
              some (.inl (t2, t7, (IntKind.i64.wrap (t8 + 1)), (r1000000.1, r1000000.2.1, r1000000.2.2.1, r1000000.2.2.2.1, f13, r1000000.2.2.2.2.2), r28))
            else none
          else none
        else none
      else none
    else
      some (.inr (t2, t7, (r1000000.1, r1000000.2.1, r1000000.2.2.1, r1000000.2.2.2.1, r1000000.2.2.2.2.1, r1000000.2.2.2.2.2), r28))

noncomputable def anns25_2 : Ann := .none
abbrev ls25_1 : Lay := ⟨[(0, .ptr 1000000 0 30), (6, .full 28)], [.env 2 (.c (.int .i64)), .env 7 (.c (.int .i64)), .reg 1000000 (.cells [.int .i64, .fz (.int .u8), .bool, .int .i64, .ints .u64 25, .int .i64]), .reg 28 (.row 5 .u8)], [(28, .env 6 0)]⟩
abbrev os25_1 : List (AExit × Lay) := [(.exit 2, ⟨[(0, .ptr 1000000 0 30)], [.reg 1000000 (.cells [.int .i64, .fz (.int .u8), .bool, .int .i64, .ints .u64 25, .int .i64])], []⟩)]
noncomputable def steps25_1 : Int × Int × (Int × (List Int) × Bool × Int × (Nat → Int) × Int) × List Int → Option ((Int × Int × (Int × (List Int) × Bool × Int × (Nat → Int) × Int) × List Int) ⊕ ((Int × (List Int) × Bool × Int × (Nat → Int) × Int)))
  | (t2, t7, r1000000, r28) =>
    if (decide (t7 < (r28.length : Int))) = true then
      (loopO steps25_2 (t2, t7, 0, (r1000000.1, r1000000.2.1, r1000000.2.2.1, r1000000.2.2.2.1, r1000000.2.2.2.2.1, r1000000.2.2.2.2.2), r28)).bind fun (z14, z15, z16, z17) =>
        (Fs26 z16.2.2.2.2.1).bind fun y18 =>
          some (.inl (z14, (IntKind.i64.wrap (z15 + z14)), (z16.1, z16.2.1, z16.2.2.1, z16.2.2.2.1, y18, z16.2.2.2.2.2), z17))
    else
      some (.inr (r1000000.1, r1000000.2.1, r1000000.2.2.1, r1000000.2.2.2.1, r1000000.2.2.2.2.1, r1000000.2.2.2.2.2))

noncomputable def anns25_1 : Ann := (.seq .none (.seq (.seq (.seq (.seq .none (.seq (.cut (cutEnt ls25_2 os25_2 (loopO (steps25_2)))) .none)) .none) .none) .none))
noncomputable def Fs25 : Int × (List Int) × Bool × Int × (Nat → Int) × Int → Option ((Int × (List Int) × Bool × Int × (Nat → Int) × Int))
  | io =>
    (Fs24 io.1).bind fun (y1, y2, y3, y4) =>
      if okBytes (([] : List Int).length + io.2.1.length) 1 then
        if okBytes ((([] : List Int) ++ io.2.1).length + ((List.replicate 1 (0 : Int)).set 0 y2).length) 1 then
          let f5 : List Int := ((([] : List Int) ++ io.2.1) ++ ((List.replicate 1 (0 : Int)).set 0 y2))
          (loopO steps25_0 (y1, (io.1, io.2.1, io.2.2.1, io.2.2.2.1, io.2.2.2.2.1, io.2.2.2.2.2), f5)).bind fun (z6, z7, z8) =>
            if (0 : Int) ≤ (IntKind.i64.wrap ((z8.length : Int) - 1)) ∧ (IntKind.i64.wrap ((z8.length : Int) - 1)) < (z8.length : Int) then
              let x9 : Int := (bitsXor .u8 (z8.getD (IntKind.i64.wrap ((z8.length : Int) - 1)).toNat 0) 128)
              if (0 : Int) ≤ (IntKind.i64.wrap ((z8.length : Int) - 1)) ∧ (IntKind.i64.wrap ((z8.length : Int) - 1)) < (z8.length : Int) then
                (loopO steps25_1 (z6, 0, (z7.1, z7.2.1, z7.2.2.1, z7.2.2.2.1, (fun _ => 0), z7.2.2.2.2.2), (z8.set (IntKind.i64.wrap ((z8.length : Int) - 1)).toNat x9))).bind fun z19 =>
                  some (z19.1, z19.2.1, z19.2.2.1, z19.2.2.2.1, z19.2.2.2.2.1, 0)
              else none
            else none
        else none
      else none

noncomputable def anns25 : Ann := (.seq .none (.seq .none (.seq .none (.seq .none (.seq (.seq (.cut (cutEnt ls25_0 os25_0 (loopO (steps25_0)))) .none) (.seq .none (.seq .none (.seq (.seq .none (.seq (.cut (cutEnt ls25_1 os25_1 (loopO (steps25_1)))) .none)) .none))))))))
theorem eqs25_0 : ∀ s : ls25_0.T, exec stab (ofL Es26) 102 (Code.at' [1, 1, 1, 1, 0, 0, 0] bodys25) anns25_0 (fun e st => loopEnd (l := ls25_0) (outs := os25_0) e st) (ls25_0.enc s) = steps25_0 s := by
  rintro ⟨t2, r1000000, r28⟩
  kernel_rfl
theorem oks25_0 : LOk Go.Proofs.Try.prog 102 (cutEnt ls25_0 os25_0 (loopO steps25_0)) (Code.at' [1, 1, 1, 1, 0, 0] bodys25) := by
  have e : Code.at' [1, 1, 1, 1, 0, 0] bodys25 = .loop (Code.at' [1, 1, 1, 1, 0, 0, 0] bodys25) := by kernel_rfl
  rw [e]
  refine loop_ok cs25 102 rfl rfl (annOk_of_cuts ?_) eqs25_0
  intro x hx
  exact absurd hx (by show x ∉ ([] : List (List Nat × LEnt)); simp)

theorem eqs25_2 : ∀ s : ls25_2.T, exec stab (ofL Es26) 102 (Code.at' [1, 1, 1, 1, 1, 1, 1, 0, 1, 0, 0, 1, 0, 0, 0, 1, 0, 0] bodys25) anns25_2 (fun e st => loopEnd (l := ls25_2) (outs := os25_2) e st) (ls25_2.enc s) = steps25_2 s := by
  rintro ⟨t2, t7, t8, r1000000, r28⟩
  kernel_rfl
theorem oks25_2 : LOk Go.Proofs.Try.prog 102 (cutEnt ls25_2 os25_2 (loopO steps25_2)) (Code.at' [1, 1, 1, 1, 1, 1, 1, 0, 1, 0, 0, 1, 0, 0, 0, 1, 0] bodys25) := by
  have e : Code.at' [1, 1, 1, 1, 1, 1, 1, 0, 1, 0, 0, 1, 0, 0, 0, 1, 0] bodys25 = .loop (Code.at' [1, 1, 1, 1, 1, 1, 1, 0, 1, 0, 0, 1, 0, 0, 0, 1, 0, 0] bodys25) := by kernel_rfl
  rw [e]
  refine loop_ok cs25 102 rfl rfl (annOk_of_cuts ?_) eqs25_2
  intro x hx
  exact absurd hx (by show x ∉ ([] : List (List Nat × LEnt)); simp)

theorem eqs25_1 : ∀ s : ls25_1.T, exec stab (ofL Es26) 102 (Code.at' [1, 1, 1, 1, 1, 1, 1, 0, 1, 0, 0] bodys25) anns25_1 (fun e st => loopEnd (l := ls25_1) (outs := os25_1) e st) (ls25_1.enc s) = steps25_1 s := by
  rintro ⟨t2, t7, r1000000, r28⟩
  kernel_rfl
theorem oks25_1 : LOk Go.Proofs.Try.prog 102 (cutEnt ls25_1 os25_1 (loopO steps25_1)) (Code.at' [1, 1, 1, 1, 1, 1, 1, 0, 1, 0] bodys25) := by
  have e : Code.at' [1, 1, 1, 1, 1, 1, 1, 0, 1, 0] bodys25 = .loop (Code.at' [1, 1, 1, 1, 1, 1, 1, 0, 1, 0, 0] bodys25) := by kernel_rfl
  rw [e]
  refine loop_ok cs25 102 rfl rfl (annOk_of_cuts ?_) eqs25_1
  have hc : Ann.cuts anns25_1 = [([1, 0, 0, 0, 1, 0], (cutEnt ls25_2 os25_2 (loopO (steps25_2))))] := by kernel_rfl
  rw [hc]
  intro x hx
  simp only [List.mem_cons, List.not_mem_nil, or_false] at hx
  rcases hx with rfl
  · have e : Code.at' [1, 0, 0, 0, 1, 0] (Code.at' [1, 1, 1, 1, 1, 1, 1, 0, 1, 0, 0] bodys25) = Code.at' [1, 1, 1, 1, 1, 1, 1, 0, 1, 0, 0, 1, 0, 0, 0, 1, 0] bodys25 := by kernel_rfl
    rw [e]; exact oks25_2

theorem eqs25 : ∀ x : Ss25.inT, exec stab (ofL Es26) 102 bodys25 anns25 (finL stab Ss25) (Ss25.inp.enc x) = Fs25 x := by
  intro x
  kernel_rfl
theorem callss25 : CallsL Go.Proofs.Try.prog 25 Ss25 Fs25 := by
  refine fun_callsL (fn := Go.Proofs.Try.f25) (c := bodys25) (ann := anns25) cs25 (by kernel_rfl) (by kernel_rfl) (by kernel_rfl) (by kernel_rfl) (by kernel_rfl) (annOk_of_cuts ?_) eqs25
  have hc : Ann.cuts anns25 = [([1, 1, 1, 1, 0, 0], (cutEnt ls25_0 os25_0 (loopO (steps25_0)))), ([1, 1, 1, 1, 1, 1, 1, 0, 1, 0], (cutEnt ls25_1 os25_1 (loopO (steps25_1))))] := by kernel_rfl
  rw [hc]
  intro x hx
  simp only [List.mem_cons, List.not_mem_nil, or_false] at hx
  rcases hx with rfl | rfl
  · have e : Code.at' [1, 1, 1, 1, 0, 0] bodys25 = Code.at' [1, 1, 1, 1, 0, 0] bodys25 := by kernel_rfl
    rw [e]; exact oks25_0
  · have e : Code.at' [1, 1, 1, 1, 1, 1, 1, 0, 1, 0] bodys25 = Code.at' [1, 1, 1, 1, 1, 1, 1, 0, 1, 0] bodys25 := by kernel_rfl
    rw [e]; exact oks25_1

theorem ents25 : EntOk Go.Proofs.Try.prog 25 (funEntL Ss25 true Fs25) := fun_okL (fn := Go.Proofs.Try.f25) (c := bodys25) (by kernel_rfl) (by kernel_rfl) (by kernel_rfl) (by kernel_rfl) callss25
noncomputable def Es25 : List (Nat × Ent) := (25, funEntL Ss25 true Fs25) :: Es26
theorem Es25_ok : EntsOk Go.Proofs.Try.prog (ofL Es25) := .cons ents25 Es26_ok

/-! ### barbican/barbicanref03.byteOf -/
noncomputable def bodys27 : Code := (Go.Proofs.Try.f27.body).getD .skip
abbrev Ss27 : FL := ⟨⟨[], [.env 0 (.agg [.ints .u64 25]), .env 1 (.c (.int .i64))], []⟩, 2, [(.ret, ⟨[], [.env 0 (.c (.int .u8))], []⟩)], [.tmp 4], false⟩
noncomputable def cs27 : Ctx Go.Proofs.Try.prog := ⟨stab, ofL Es25, stabOk, Es25_ok, sdep, sord⟩
noncomputable def Fs27 : (Nat → Int) × Int → Option ((Int))
  | (a0, a1) =>
    if (0 : Int) ≤ (IntKind.i64.wrap (a1.tdiv 8)) ∧ (IntKind.i64.wrap (a1.tdiv 8)) < ((25 : Int) : Int) then
      if 0 ≤ (IntKind.u64.wrap (IntKind.i64.wrap ((a1.tmod 8) * 8))) then
        let x1 : Int := (shrI .u64 (a0 (IntKind.i64.wrap (a1.tdiv 8)).toNat) (IntKind.u64.wrap (IntKind.i64.wrap ((a1.tmod 8) * 8))))
        some (IntKind.u8.wrap x1)
      else none
    else none

noncomputable def anns27 : Ann := .none
theorem eqs27 : ∀ x : Ss27.inT, exec stab (ofL Es25) 15 bodys27 anns27 (finL stab Ss27) (Ss27.inp.enc x) = Fs27 x := by
  rintro ⟨a0, a1⟩
  kernel_rfl
theorem callss27 : CallsL Go.Proofs.Try.prog 27 Ss27 Fs27 := by
  refine fun_callsL (fn := Go.Proofs.Try.f27) (c := bodys27) (ann := anns27) cs27 (by kernel_rfl) (by kernel_rfl) (by kernel_rfl) (by kernel_rfl) (by kernel_rfl) (annOk_of_cuts ?_) eqs27
  intro x hx
  exact absurd hx (by show x ∉ ([] : List (List Nat × LEnt)); simp)

theorem ents27 : EntOk Go.Proofs.Try.prog 27 (funEntL Ss27 true Fs27) := fun_okL (fn := Go.Proofs.Try.f27) (c := bodys27) (by kernel_rfl) (by kernel_rfl) (by kernel_rfl) (by kernel_rfl) callss27
noncomputable def Es27 : List (Nat × Ent) := (27, funEntL Ss27 true Fs27) :: Es25
theorem Es27_ok : EntsOk Go.Proofs.Try.prog (ofL Es27) := .cons ents27 Es25_ok

/-! ### (*barbican/barbicanref03.Sponge).Read -/
noncomputable def bodys15 : Code := (Go.Proofs.Try.f15.body).getD .skip
abbrev Ss15 : FL := ⟨⟨[(0, .ptr 1000000 0 30)], [.reg 1000000 (.cells [.int .i64, .fz (.int .u8), .bool, .int .i64, .ints .u64 25, .int .i64]), .env 1 (.c (.int .i64))], [(1000000, .env 0 0)]⟩, 2, [(.ret, ⟨[(0, .full 1)], [.reg 1 (.row 5 .u8), .reg 1000000 (.cells [.int .i64, .fz (.int .u8), .bool, .int .i64, .ints .u64 25, .int .i64])], [(1, .env 0 0)]⟩)], [.tmp 4], true⟩
noncomputable def cs15 : Ctx Go.Proofs.Try.prog := ⟨stab, ofL Es27, stabOk, Es27_ok, sdep, sord⟩
abbrev ls15_1 : Lay := ⟨[(0, .ptr 1000000 0 30), (9, .full 9)], [.env 1 (.c (.int .i64)), .env 5 (.c (.int .i64)), .env 10 (.c (.int .i64)), .reg 1000000 (.cells [.int .i64, .fz (.int .u8), .bool, .int .i64, .ints .u64 25, .int .i64]), .reg 9 (.row 5 .u8)], [(9, .env 9 0)]⟩
abbrev os15_1 : List (AExit × Lay) := [(.exit 2, ⟨[(0, .ptr 1000000 0 30), (9, .full 9)], [.env 1 (.c (.int .i64)), .env 5 (.c (.int .i64)), .env 10 (.c (.int .i64)), .reg 1000000 (.cells [.int .i64, .fz (.int .u8), .bool, .int .i64, .ints .u64 25, .int .i64]), .reg 9 (.row 5 .u8)], [(9, .env 9 0)]⟩)]
noncomputable def steps15_1 : Int × Int × Int × (Int × (List Int) × Bool × Int × (Nat → Int) × Int) × List Int → Option ((Int × Int × Int × (Int × (List Int) × Bool × Int × (Nat → Int) × Int) × List Int) ⊕ ((Int × Int × Int × (Int × (List Int) × Bool × Int × (Nat → Int) × Int) × List Int)))
  | (t1, t5, t10, r1000000, r9) =>
    if t5 ≠ 0 then
      let x6 : Bool := (decide (r1000000.2.2.2.2.2 < (IntKind.i64.wrap (r1000000.2.2.2.1.tdiv t5))))
      if x6 = true then
        (Fs26 r1000000.2.2.2.2.1).bind fun y7 =>
          some (.inl (t1, t5, t10, (r1000000.1, r1000000.2.1, r1000000.2.2.1, r1000000.2.2.2.1, y7, (IntKind.i64.wrap (r1000000.2.2.2.2.2 + 1))), r9))
      else
        some (.inr (t1, t5, t10, (r1000000.1, r1000000.2.1, r1000000.2.2.1, r1000000.2.2.2.1, r1000000.2.2.2.2.1, r1000000.2.2.2.2.2), r9))
    else none

noncomputable def anns15_1 : Ann := .none
abbrev ls15_0 : Lay := ⟨[(0, .ptr 1000000 0 30), (9, .full 9)], [.env 1 (.c (.int .i64)), .env 5 (.c (.int .i64)), .env 10 (.c (.int .i64)), .reg 1000000 (.cells [.int .i64, .fz (.int .u8), .bool, .int .i64, .ints .u64 25, .int .i64]), .reg 9 (.row 5 .u8)], [(9, .env 9 0)]⟩
abbrev os15_0 : List (AExit × Lay) := [(.exit 0, ⟨[(9, .full 9)], [.reg 9 (.row 5 .u8), .reg 1000000 (.cells [.int .i64, .fz (.int .u8), .bool, .int .i64, .ints .u64 25, .int .i64])], [(9, .env 9 0)]⟩)]
noncomputable def steps15_0 : Int × Int × Int × (Int × (List Int) × Bool × Int × (Nat → Int) × Int) × List Int → Option ((Int × Int × Int × (Int × (List Int) × Bool × Int × (Nat → Int) × Int) × List Int) ⊕ ((List Int × (Int × (List Int) × Bool × Int × (Nat → Int) × Int))))
  | (t1, t5, t10, r1000000, r9) =>
    if (decide (t10 < t1)) = true then
      (loopO steps15_1 (t1, t5, t10, (r1000000.1, r1000000.2.1, r1000000.2.2.1, r1000000.2.2.2.1, r1000000.2.2.2.2.1, r1000000.2.2.2.2.2), r9)).bind fun (z8, z9, z10, z11, z12) =>
        if z9 ≠ 0 then
          (Fs27 (z11.2.2.2.2.1, (z11.2.2.2.1.tmod z9))).bind fun y13 =>
            if okBytes (z12.length + ((List.replicate 1 (0 : Int)).set 0 y13).length) 1 then
              some (.inl (z8, z9, (IntKind.i64.wrap (z10 + 1)), (z11.1, z11.2.1, z11.2.2.1, (IntKind.i64.wrap (z11.2.2.2.1 + 1)), z11.2.2.2.2.1, z11.2.2.2.2.2), (z12 ++ ((List.replicate 1 (0 : Int)).set 0 y13))))
            else none
        else none
    else
      some (.inr (r9, (r1000000.1, r1000000.2.1, r1000000.2.2.1, r1000000.2.2.2.1, r1000000.2.2.2.2.1, r1000000.2.2.2.2.2)))

noncomputable def anns15_0 : Ann := (.seq .none (.seq (.seq (.seq (.seq (.cut (cutEnt ls15_1 os15_1 (loopO (steps15_1)))) .none) .none) .none) .none))
noncomputable def Fs15 : (Int × (List Int) × Bool × Int × (Nat → Int) × Int) × Int → Option ((List Int × (Int × (List Int) × Bool × Int × (Nat → Int) × Int)))
  | (io, a1) =>
    (Fs24 io.1).bind fun (y1, y2, y3, y4) =>
      if (!io.2.2.1) = true then
        (Fs25 (io.1, io.2.1, io.2.2.1, io.2.2.2.1, io.2.2.2.2.1, io.2.2.2.2.2)).bind fun y5 =>
          (loopO steps15_0 (a1, y1, 0, (y5.1, y5.2.1, true, y5.2.2.2.1, y5.2.2.2.2.1, y5.2.2.2.2.2), ([] : List Int))).bind fun (z14, z15) =>
            some (z14, (z15.1, z15.2.1, z15.2.2.1, z15.2.2.2.1, z15.2.2.2.2.1, z15.2.2.2.2.2))
      else
        (loopO steps15_0 (a1, y1, 0, (io.1, io.2.1, true, io.2.2.2.1, io.2.2.2.2.1, io.2.2.2.2.2), ([] : List Int))).bind fun (z16, z17) =>
          some (z16, (z17.1, z17.2.1, z17.2.2.1, z17.2.2.2.1, z17.2.2.2.2.1, z17.2.2.2.2.2))

noncomputable def anns15 : Ann := (.seq .none (.seq .none (.seq .none (.seq .none (.seq .none (.seq (.seq .none (.seq (.cut (cutEnt ls15_0 os15_0 (loopO (steps15_0)))) .none)) .none))))))
theorem eqs15_1 : ∀ s : ls15_1.T, exec stab (ofL Es27) 84 (Code.at' [1, 1, 1, 1, 1, 0, 1, 0, 0, 1, 0, 0, 0, 0, 0] bodys15) anns15_1 (fun e st => loopEnd (l := ls15_1) (outs := os15_1) e st) (ls15_1.enc s) = steps15_1 s := by
  rintro ⟨t1, t5, t10, r1000000, r9⟩
  kernel_rfl
theorem oks15_1 : LOk Go.Proofs.Try.prog 84 (cutEnt ls15_1 os15_1 (loopO steps15_1)) (Code.at' [1, 1, 1, 1, 1, 0, 1, 0, 0, 1, 0, 0, 0, 0] bodys15) := by
  have e : Code.at' [1, 1, 1, 1, 1, 0, 1, 0, 0, 1, 0, 0, 0, 0] bodys15 = .loop (Code.at' [1, 1, 1, 1, 1, 0, 1, 0, 0, 1, 0, 0, 0, 0, 0] bodys15) := by kernel_rfl
  rw [e]
  refine loop_ok cs15 84 rfl rfl (annOk_of_cuts ?_) eqs15_1
  intro x hx
  exact absurd hx (by show x ∉ ([] : List (List Nat × LEnt)); simp)

theorem eqs15_0 : ∀ s : ls15_0.T, exec stab (ofL Es27) 84 (Code.at' [1, 1, 1, 1, 1, 0, 1, 0, 0] bodys15) anns15_0 (fun e st => loopEnd (l := ls15_0) (outs := os15_0) e st) (ls15_0.enc s) = steps15_0 s := by
  rintro ⟨t1, t5, t10, r1000000, r9⟩
  kernel_rfl
theorem oks15_0 : LOk Go.Proofs.Try.prog 84 (cutEnt ls15_0 os15_0 (loopO steps15_0)) (Code.at' [1, 1, 1, 1, 1, 0, 1, 0] bodys15) := by
  have e : Code.at' [1, 1, 1, 1, 1, 0, 1, 0] bodys15 = .loop (Code.at' [1, 1, 1, 1, 1, 0, 1, 0, 0] bodys15) := by kernel_rfl
  rw [e]
  refine loop_ok cs15 84 rfl rfl (annOk_of_cuts ?_) eqs15_0
  have hc : Ann.cuts anns15_0 = [([1, 0, 0, 0, 0], (cutEnt ls15_1 os15_1 (loopO (steps15_1))))] := by kernel_rfl
  rw [hc]
  intro x hx
  simp only [List.mem_cons, List.not_mem_nil, or_false] at hx
  rcases hx with rfl
  · have e : Code.at' [1, 0, 0, 0, 0] (Code.at' [1, 1, 1, 1, 1, 0, 1, 0, 0] bodys15) = Code.at' [1, 1, 1, 1, 1, 0, 1, 0, 0, 1, 0, 0, 0, 0] bodys15 := by kernel_rfl
    rw [e]; exact oks15_1

theorem eqs15 : ∀ x : Ss15.inT, exec stab (ofL Es27) 84 bodys15 anns15 (finL stab Ss15) (Ss15.inp.enc x) = Fs15 x := by
  rintro ⟨io, a1⟩
  kernel_rfl
theorem callss15 : CallsL Go.Proofs.Try.prog 15 Ss15 Fs15 := by
  refine fun_callsL (fn := Go.Proofs.Try.f15) (c := bodys15) (ann := anns15) cs15 (by kernel_rfl) (by kernel_rfl) (by kernel_rfl) (by kernel_rfl) (by kernel_rfl) (annOk_of_cuts ?_) eqs15
  have hc : Ann.cuts anns15 = [([1, 1, 1, 1, 1, 0, 1, 0], (cutEnt ls15_0 os15_0 (loopO (steps15_0))))] := by kernel_rfl
  rw [hc]
  intro x hx
  simp only [List.mem_cons, List.not_mem_nil, or_false] at hx
  rcases hx with rfl
  · have e : Code.at' [1, 1, 1, 1, 1, 0, 1, 0] bodys15 = Code.at' [1, 1, 1, 1, 1, 0, 1, 0] bodys15 := by kernel_rfl
    rw [e]; exact oks15_0

theorem ents15 : EntOk Go.Proofs.Try.prog 15 (funEntL Ss15 true Fs15) := fun_okL (fn := Go.Proofs.Try.f15) (c := bodys15) (by kernel_rfl) (by kernel_rfl) (by kernel_rfl) (by kernel_rfl) callss15
noncomputable def Es15 : List (Nat × Ent) := (15, funEntL Ss15 true Fs15) :: Es27
theorem Es15_ok : EntsOk Go.Proofs.Try.prog (ofL Es15) := .cons ents15 Es27_ok

/-! ### barbican/barbicanref09.Uniform -/
noncomputable def bodys8 : Code := (Go.Proofs.Try.f8.body).getD .skip
abbrev Ss8 : FL := ⟨⟨[], [.env 0 (.c (.fz (.int .u8)))], []⟩, 1, [(.ret, ⟨[], [.env 0 (.agg [.ints .i32 256]), .env 1 (.c (.int .i64))], []⟩)], [.cell 2 25, .tmp 3], false⟩
noncomputable def cs8 : Ctx Go.Proofs.Try.prog := ⟨stab, ofL Es15, stabOk, Es15_ok, sdep, sord⟩
abbrev ls8_0 : Lay := ⟨[(2, .ptr 2 0 256), (4, .ptr 4 0 256), (5, .ptr 16 0 30)], [.env 6 (.c (.int .i64)), .env 7 (.c (.int .i64)), .reg 2 (.cells [.ints .i32 256]), .reg 4 (.cells [.ints .i32 256]), .reg 16 (.cells [.int .i64, .fz (.int .u8), .bool, .int .i64, .ints .u64 25, .int .i64])], [(2, .env 2 0), (4, .env 4 0), (16, .env 5 0)]⟩
abbrev os8_0 : List (AExit × Lay) := [(.exit 0, ⟨[(2, .ptr 2 0 256), (4, .ptr 4 0 256)], [.env 6 (.c (.int .i64)), .reg 2 (.cells [.ints .i32 256]), .reg 4 (.cells [.ints .i32 256])], [(2, .env 2 0), (4, .env 4 0)]⟩)]
noncomputable def steps8_0 : Int × Int × (Nat → Int) × (Nat → Int) × (Int × (List Int) × Bool × Int × (Nat → Int) × Int) → Option ((Int × Int × (Nat → Int) × (Nat → Int) × (Int × (List Int) × Bool × Int × (Nat → Int) × Int)) ⊕ ((Int × (Nat → Int) × (Nat → Int))))
  | (t6, t7, r2, r4, r16) =>
    if (decide (t7 < 2016)) = true then
      if (decide (t6 < 256)) = true then
        (Fs15 ((r16.1, r16.2.1, r16.2.2.1, r16.2.2.2.1, r16.2.2.2.2.1, r16.2.2.2.2.2), 3)).bind fun (y1, y2) =>
          if (0 : Int) ≤ (0 : Int) ∧ (0 : Int) < (y1.length : Int) then
            if (0 : Int) ≤ (1 : Int) ∧ (1 : Int) < (y1.length : Int) then
              let x3 : Int := (IntKind.i32.wrap ((IntKind.i32.wrap (y1.getD 0 0)) + (IntKind.i32.wrap (256 * (IntKind.i32.wrap (y1.getD 1 0))))))
              if (0 : Int) ≤ (2 : Int) ∧ (2 : Int) < (y1.length : Int) then
                let x4 : Int := (IntKind.i32.wrap (65536 * (IntKind.i32.wrap ((y1.getD 2 0).tmod 128))))
                if (decide ((IntKind.i32.wrap (x3 + x4)) < 8380417)) = true then
                  if (0 : Int) ≤ t6 ∧ t6 < ((256 : Int) : Int) then
                    some (.inl ((IntKind.i64.wrap (t6 + 1)), (IntKind.i64.wrap (t7 + 1)), r2, (upd r4 t6.toNat (IntKind.i32.wrap (x3 + x4))), (y2.1, y2.2.1, y2.2.2.1, y2.2.2.2.1, y2.2.2.2.2.1, y2.2.2.2.2.2)))
                  else none
                else
                  some (.inl (t6, (IntKind.i64.wrap (t7 + 1)), r2, r4, (y2.1, y2.2.1, y2.2.2.1, y2.2.2.2.1, y2.2.2.2.2.1, y2.2.2.2.2.2)))
              else none
            else none
          else none
      else
        some (.inr (t6, r2, r4))
    else
      some (.inr (t6, r2, r4))

noncomputable def anns8_0 : Ann := .none
noncomputable def Fs8 : (List Int) → Option (((Nat → Int) × Int))
  | a0 =>
    if ((a0.length : Int) != 34) = true then
      some ((fun _ => 0), 91)
    else
      (loopO steps8_0 (0, 0, (fun _ => 0), (fun _ => 0), (4, a0, false, 0, (fun _ => 0), 0))).bind fun (z5, z6, z7) =>
        if (decide (z5 < 256)) = true then
          some ((fun _ => 0), 94)
        else
          some (z7, 0)

noncomputable def anns8 : Ann := (.seq .none (.seq .none (.seq .none (.seq .none (.seq .none (.seq (.seq .none (.seq (.cut (cutEnt ls8_0 os8_0 (loopO (steps8_0)))) .none)) .none))))))
theorem eqs8_0 : ∀ s : ls8_0.T, exec stab (ofL Es15) 55 (Code.at' [1, 1, 1, 1, 1, 0, 1, 0, 0] bodys8) anns8_0 (fun e st => loopEnd (l := ls8_0) (outs := os8_0) e st) (ls8_0.enc s) = steps8_0 s := by
  rintro ⟨t6, t7, r2, r4, r16⟩
  kernel_rfl
theorem oks8_0 : LOk Go.Proofs.Try.prog 55 (cutEnt ls8_0 os8_0 (loopO steps8_0)) (Code.at' [1, 1, 1, 1, 1, 0, 1, 0] bodys8) := by
  have e : Code.at' [1, 1, 1, 1, 1, 0, 1, 0] bodys8 = .loop (Code.at' [1, 1, 1, 1, 1, 0, 1, 0, 0] bodys8) := by kernel_rfl
  rw [e]
  refine loop_ok cs8 55 rfl rfl (annOk_of_cuts ?_) eqs8_0
  intro x hx
  exact absurd hx (by show x ∉ ([] : List (List Nat × LEnt)); simp)

theorem eqs8 : ∀ x : Ss8.inT, exec stab (ofL Es15) 55 bodys8 anns8 (finL stab Ss8) (Ss8.inp.enc x) = Fs8 x := by
  intro x
  kernel_rfl
theorem callss8 : CallsL Go.Proofs.Try.prog 8 Ss8 Fs8 := by
  refine fun_callsL (fn := Go.Proofs.Try.f8) (c := bodys8) (ann := anns8) cs8 (by kernel_rfl) (by kernel_rfl) (by kernel_rfl) (by kernel_rfl) (by kernel_rfl) (annOk_of_cuts ?_) eqs8
  have hc : Ann.cuts anns8 = [([1, 1, 1, 1, 1, 0, 1, 0], (cutEnt ls8_0 os8_0 (loopO (steps8_0))))] := by kernel_rfl
  rw [hc]
  intro x hx
  simp only [List.mem_cons, List.not_mem_nil, or_false] at hx
  rcases hx with rfl
  · have e : Code.at' [1, 1, 1, 1, 1, 0, 1, 0] bodys8 = Code.at' [1, 1, 1, 1, 1, 0, 1, 0] bodys8 := by kernel_rfl
    rw [e]; exact oks8_0

theorem ents8 : EntOk Go.Proofs.Try.prog 8 (funEntL Ss8 true Fs8) := fun_okL (fn := Go.Proofs.Try.f8) (c := bodys8) (by kernel_rfl) (by kernel_rfl) (by kernel_rfl) (by kernel_rfl) callss8
noncomputable def Es8 : List (Nat × Ent) := (8, funEntL Ss8 true Fs8) :: Es15
theorem Es8_ok : EntsOk Go.Proofs.Try.prog (ofL Es8) := .cons ents8 Es15_ok

/-! ### barbican/barbicanref08.Mod -/
noncomputable def bodys16 : Code := (Go.Proofs.Try.f16.body).getD .skip
abbrev Ss16 : FL := ⟨⟨[], [.env 0 (.c (.int .i64))], []⟩, 1, [(.ret, ⟨[], [.env 0 (.c (.int .i32))], []⟩)], [.tmp 2], false⟩
noncomputable def cs16 : Ctx Go.Proofs.Try.prog := ⟨stab, ofL Es8, stabOk, Es8_ok, sdep, sord⟩
noncomputable def Fs16 : Int → Option ((Int))
  | a0 =>
    if (decide ((a0.tmod 8380417) < 0)) = true then
      let x1 : Int := (IntKind.i32.wrap (IntKind.i64.wrap ((a0.tmod 8380417) + 8380417)))
      some x1
    else
      some (IntKind.i32.wrap (a0.tmod 8380417))

noncomputable def anns16 : Ann := .none
theorem eqs16 : ∀ x : Ss16.inT, exec stab (ofL Es8) 11 bodys16 anns16 (finL stab Ss16) (Ss16.inp.enc x) = Fs16 x := by
  intro x
  kernel_rfl
theorem callss16 : CallsL Go.Proofs.Try.prog 16 Ss16 Fs16 := by
  refine fun_callsL (fn := Go.Proofs.Try.f16) (c := bodys16) (ann := anns16) cs16 (by kernel_rfl) (by kernel_rfl) (by kernel_rfl) (by kernel_rfl) (by kernel_rfl) (annOk_of_cuts ?_) eqs16
  intro x hx
  exact absurd hx (by show x ∉ ([] : List (List Nat × LEnt)); simp)

theorem ents16 : EntOk Go.Proofs.Try.prog 16 (funEntL Ss16 true Fs16) := fun_okL (fn := Go.Proofs.Try.f16) (c := bodys16) (by kernel_rfl) (by kernel_rfl) (by kernel_rfl) (by kernel_rfl) callss16
noncomputable def Es16 : List (Nat × Ent) := (16, funEntL Ss16 true Fs16) :: Es8
theorem Es16_ok : EntsOk Go.Proofs.Try.prog (ofL Es16) := .cons ents16 Es8_ok

/-! ### barbican/barbicanref09.Small -/
noncomputable def bodys9 : Code := (Go.Proofs.Try.f9.body).getD .skip
abbrev Ss9 : FL := ⟨⟨[], [.env 0 (.c (.fz (.int .u8)))], []⟩, 1, [(.ret, ⟨[], [.env 0 (.agg [.ints .i32 256]), .env 1 (.c (.int .i64))], []⟩)], [.cell 2 25, .tmp 3], false⟩
noncomputable def cs9 : Ctx Go.Proofs.Try.prog := ⟨stab, ofL Es16, stabOk, Es16_ok, sdep, sord⟩
abbrev ls9_0 : Lay := ⟨[(2, .ptr 2 0 256), (4, .ptr 4 0 256), (5, .ptr 16 0 30)], [.env 6 (.c (.int .i64)), .env 7 (.c (.int .i64)), .reg 2 (.cells [.ints .i32 256]), .reg 4 (.cells [.ints .i32 256]), .reg 16 (.cells [.int .i64, .fz (.int .u8), .bool, .int .i64, .ints .u64 25, .int .i64])], [(2, .env 2 0), (4, .env 4 0), (16, .env 5 0)]⟩
abbrev os9_0 : List (AExit × Lay) := [(.exit 0, ⟨[(2, .ptr 2 0 256), (4, .ptr 4 0 256)], [.env 6 (.c (.int .i64)), .reg 2 (.cells [.ints .i32 256]), .reg 4 (.cells [.ints .i32 256])], [(2, .env 2 0), (4, .env 4 0)]⟩)]
noncomputable def steps9_0 : Int × Int × (Nat → Int) × (Nat → Int) × (Int × (List Int) × Bool × Int × (Nat → Int) × Int) → Option ((Int × Int × (Nat → Int) × (Nat → Int) × (Int × (List Int) × Bool × Int × (Nat → Int) × Int)) ⊕ ((Int × (Nat → Int) × (Nat → Int))))
  | (t6, t7, r2, r4, r16) =>
    if (decide (t7 < 2000)) = true then
      if (decide (t6 < 256)) = true then
        (Fs15 ((r16.1, r16.2.1, r16.2.2.1, r16.2.2.2.1, r16.2.2.2.2.1, r16.2.2.2.2.2), 1)).bind fun (y1, y2) =>
          if (0 : Int) ≤ (0 : Int) ∧ (0 : Int) < (y1.length : Int) then
            if (decide (((y1.getD 0 0).tmod 16) < 9)) = true then
              let x3 : Int := (IntKind.i64.wrap (4 - (IntKind.i64.wrap ((y1.getD 0 0).tmod 16))))
              (Fs16 x3).bind fun y4 =>
                if (0 : Int) ≤ t6 ∧ t6 < ((256 : Int) : Int) then
                  if (decide ((IntKind.u8.wrap ((y1.getD 0 0).tdiv 16)) < 9)) = true then
                    if (decide ((IntKind.i64.wrap (t6 + 1)) < 256)) = true then
                      let x5 : Int := (IntKind.i64.wrap (4 - (IntKind.i64.wrap (IntKind.u8.wrap ((y1.getD 0 0).tdiv 16)))))
                      (Fs16 x5).bind fun y6 =>
                        if (0 : Int) ≤ (IntKind.i64.wrap (t6 + 1)) ∧ (IntKind.i64.wrap (t6 + 1)) < ((256 : Int) : Int) then
                          let f7 : Nat → Int := (upd (upd r4 t6.toNat y4) (IntKind.i64.wrap (t6 + 1)).toNat y6)
                          some (.inl ((IntKind.i64.wrap ((IntKind.i64.wrap (t6 + 1)) + 1)), (IntKind.i64.wrap (t7 + 1)), r2, f7, (y2.1, y2.2.1, y2.2.2.1, y2.2.2.2.1, y2.2.2.2.2.1, y2.2.2.2.2.2)))
                        else none
                    else
                      some (.inl ((IntKind.i64.wrap (t6 + 1)), (IntKind.i64.wrap (t7 + 1)), r2, (upd r4 t6.toNat y4), (y2.1, y2.2.1, y2.2.2.1, y2.2.2.2.1, y2.2.2.2.2.1, y2.2.2.2.2.2)))
                  else
                    some (.inl ((IntKind.i64.wrap (t6 + 1)), (IntKind.i64.wrap (t7 + 1)), r2, (upd r4 t6.toNat y4), (y2.1, y2.2.1, y2.2.2.1, y2.2.2.2.1, y2.2.2.2.2.1, y2.2.2.2.2.2)))
                else none
            else
              if (decide ((IntKind.u8.wrap ((y1.getD 0 0).tdiv 16)) < 9)) = true then
                if (decide (t6 < 256)) = true then
                  let x8 : Int := (IntKind.i64.wrap (4 - (IntKind.i64.wrap (IntKind.u8.wrap ((y1.getD 0 0).tdiv 16)))))
                  (Fs16 x8).bind fun y9 =>
                    if (0 : Int) ≤ t6 ∧ t6 < ((256 : Int) : Int) then
                      some (.inl ((IntKind.i64.wrap (t6 + 1)), (IntKind.i64.wrap (t7 + 1)), r2, (upd r4 t6.toNat y9), (y2.1, y2.2.1, y2.2.2.1, y2.2.2.2.1, y2.2.2.2.2.1, y2.2.2.2.2.2)))
                    else none
                else
                  some (.inl (t6, (IntKind.i64.wrap (t7 + 1)), r2, r4, (y2.1, y2.2.1, y2.2.2.1, y2.2.2.2.1, y2.2.2.2.2.1, y2.2.2.2.2.2)))
              else
                some (.inl (t6, (IntKind.i64.wrap (t7 + 1)), r2, r4, (y2.1, y2.2.1, y2.2.2.1, y2.2.2.2.1, y2.2.2.2.2.1, y2.2.2.2.2.2)))
          else none
      else
        some (.inr (t6, r2, r4))
    else
      some (.inr (t6, r2, r4))

noncomputable def anns9_0 : Ann := .none
noncomputable def Fs9 : (List Int) → Option (((Nat → Int) × Int))
  | a0 =>
    if ((a0.length : Int) != 66) = true then
      some ((fun _ => 0), 91)
    else
      (loopO steps9_0 (0, 0, (fun _ => 0), (fun _ => 0), (5, a0, false, 0, (fun _ => 0), 0))).bind fun (z10, z11, z12) =>
        if (decide (z10 < 256)) = true then
          some ((fun _ => 0), 94)
        else
          some (z12, 0)

noncomputable def anns9 : Ann := (.seq .none (.seq .none (.seq .none (.seq .none (.seq .none (.seq (.seq .none (.seq (.cut (cutEnt ls9_0 os9_0 (loopO (steps9_0)))) .none)) .none))))))
theorem eqs9_0 : ∀ s : ls9_0.T, exec stab (ofL Es16) 61 (Code.at' [1, 1, 1, 1, 1, 0, 1, 0, 0] bodys9) anns9_0 (fun e st => loopEnd (l := ls9_0) (outs := os9_0) e st) (ls9_0.enc s) = steps9_0 s := by
  rintro ⟨t6, t7, r2, r4, r16⟩
  kernel_rfl
theorem oks9_0 : LOk Go.Proofs.Try.prog 61 (cutEnt ls9_0 os9_0 (loopO steps9_0)) (Code.at' [1, 1, 1, 1, 1, 0, 1, 0] bodys9) := by
  have e : Code.at' [1, 1, 1, 1, 1, 0, 1, 0] bodys9 = .loop (Code.at' [1, 1, 1, 1, 1, 0, 1, 0, 0] bodys9) := by kernel_rfl
  rw [e]
  refine loop_ok cs9 61 rfl rfl (annOk_of_cuts ?_) eqs9_0
  intro x hx
  exact absurd hx (by show x ∉ ([] : List (List Nat × LEnt)); simp)

theorem eqs9 : ∀ x : Ss9.inT, exec stab (ofL Es16) 61 bodys9 anns9 (finL stab Ss9) (Ss9.inp.enc x) = Fs9 x := by
  intro x
  kernel_rfl
theorem callss9 : CallsL Go.Proofs.Try.prog 9 Ss9 Fs9 := by
  refine fun_callsL (fn := Go.Proofs.Try.f9) (c := bodys9) (ann := anns9) cs9 (by kernel_rfl) (by kernel_rfl) (by kernel_rfl) (by kernel_rfl) (by kernel_rfl) (annOk_of_cuts ?_) eqs9
  have hc : Ann.cuts anns9 = [([1, 1, 1, 1, 1, 0, 1, 0], (cutEnt ls9_0 os9_0 (loopO (steps9_0))))] := by kernel_rfl
  rw [hc]
  intro x hx
  simp only [List.mem_cons, List.not_mem_nil, or_false] at hx
  rcases hx with rfl
  · have e : Code.at' [1, 1, 1, 1, 1, 0, 1, 0] bodys9 = Code.at' [1, 1, 1, 1, 1, 0, 1, 0] bodys9 := by kernel_rfl
    rw [e]; exact oks9_0

theorem ents9 : EntOk Go.Proofs.Try.prog 9 (funEntL Ss9 true Fs9) := fun_okL (fn := Go.Proofs.Try.f9) (c := bodys9) (by kernel_rfl) (by kernel_rfl) (by kernel_rfl) (by kernel_rfl) callss9
noncomputable def Es9 : List (Nat × Ent) := (9, funEntL Ss9 true Fs9) :: Es16
theorem Es9_ok : EntsOk Go.Proofs.Try.prog (ofL Es9) := .cons ents9 Es16_ok

/-! ### barbican/barbicanref09.Ball -/
noncomputable def bodys10 : Code := (Go.Proofs.Try.f10.body).getD .skip
abbrev Ss10 : FL := ⟨⟨[], [.env 0 (.c (.fz (.int .u8)))], []⟩, 1, [(.ret, ⟨[], [.env 0 (.agg [.ints .i32 256]), .env 1 (.c (.int .i64))], []⟩)], [.cell 2 25, .tmp 3], false⟩
noncomputable def cs10 : Ctx Go.Proofs.Try.prog := ⟨stab, ofL Es9, stabOk, Es9_ok, sdep, sord⟩
abbrev ls10_0 : Lay := ⟨[(2, .ptr 2 0 256), (4, .ptr 4 0 256), (5, .ptr 17 0 30), (6, .full 1019)], [.env 7 (.c (.int .i64)), .env 8 (.c (.int .i64)), .reg 2 (.cells [.ints .i32 256]), .reg 4 (.cells [.ints .i32 256]), .reg 17 (.cells [.int .i64, .fz (.int .u8), .bool, .int .i64, .ints .u64 25, .int .i64]), .reg 1019 (.row 5 .u8)], [(2, .env 2 0), (4, .env 4 0), (17, .env 5 0), (1019, .env 6 0)]⟩
abbrev os10_0 : List (AExit × Lay) := [(.exit 0, ⟨[(2, .ptr 2 0 256), (4, .ptr 4 0 256)], [.env 7 (.c (.int .i64)), .reg 2 (.cells [.ints .i32 256]), .reg 4 (.cells [.ints .i32 256])], [(2, .env 2 0), (4, .env 4 0)]⟩)]
noncomputable def steps10_0 : Int × Int × (Nat → Int) × (Nat → Int) × (Int × (List Int) × Bool × Int × (Nat → Int) × Int) × List Int → Option ((Int × Int × (Nat → Int) × (Nat → Int) × (Int × (List Int) × Bool × Int × (Nat → Int) × Int) × List Int) ⊕ ((Int × (Nat → Int) × (Nat → Int))))
  | (t7, t8, r2, r4, r17, r1019) =>
    if (decide (t8 < 1000)) = true then
      if (decide (t7 < 256)) = true then
        (Fs15 ((r17.1, r17.2.1, r17.2.2.1, r17.2.2.2.1, r17.2.2.2.2.1, r17.2.2.2.2.2), 1)).bind fun (y3, y4) =>
          if (0 : Int) ≤ (0 : Int) ∧ (0 : Int) < (y3.length : Int) then
            if (decide ((IntKind.i64.wrap (y3.getD 0 0)) > t7)) = true then
              some (.inl (t7, (IntKind.i64.wrap (t8 + 1)), r2, r4, (y4.1, y4.2.1, y4.2.2.1, y4.2.2.2.1, y4.2.2.2.2.1, y4.2.2.2.2.2), r1019))
            else
              if (0 : Int) ≤ (IntKind.i64.wrap (y3.getD 0 0)) ∧ (IntKind.i64.wrap (y3.getD 0 0)) < ((256 : Int) : Int) then
                if (0 : Int) ≤ t7 ∧ t7 < ((256 : Int) : Int) then
                  let f5 : Nat → Int := (upd r4 t7.toNat (r4 (IntKind.i64.wrap (y3.getD 0 0)).toNat))
                  if (0 : Int) ≤ (IntKind.i64.wrap (y3.getD 0 0)) ∧ (IntKind.i64.wrap (y3.getD 0 0)) < ((256 : Int) : Int) then
                    if (0 : Int) ≤ (IntKind.i64.wrap ((IntKind.i64.wrap (t7 - 207)).tdiv 8)) ∧ (IntKind.i64.wrap ((IntKind.i64.wrap (t7 - 207)).tdiv 8)) < (r1019.length : Int) then
                      let x6 : Nat := (IntKind.i64.wrap ((IntKind.i64.wrap (t7 - 207)).tdiv 8)).toNat
                      if 0 ≤ (IntKind.u64.wrap ((IntKind.i64.wrap (t7 - 207)).tmod 8)) then
                        let x7 : Int := (shrI .u8 (r1019.getD x6 0) (IntKind.u64.wrap ((IntKind.i64.wrap (t7 - 207)).tmod 8)))
                        if ((x7.tmod 2) == 1) = true then
                          if (0 : Int) ≤ (IntKind.i64.wrap (y3.getD 0 0)) ∧ (IntKind.i64.wrap (y3.getD 0 0)) < ((256 : Int) : Int) then
                            let f8 : Nat → Int := (upd (upd f5 (IntKind.i64.wrap (y3.getD 0 0)).toNat 1) (IntKind.i64.wrap (y3.getD 0 0)).toNat 8380416)
                            some (.inl ((IntKind.i64.wrap (t7 + 1)), (IntKind.i64.wrap (t8 + 1)), r2, f8, (y4.1, y4.2.1, y4.2.2.1, y4.2.2.2.1, y4.2.2.2.2.1, y4.2.2.2.2.2), r1019))
                          else none
                        else
                          some (.inl ((IntKind.i64.wrap (t7 + 1)), (IntKind.i64.wrap (t8 + 1)), r2, (upd f5 (IntKind.i64.wrap (y3.getD 0 0)).toNat 1), (y4.1, y4.2.1, y4.2.2.1, y4.2.2.2.1, y4.2.2.2.2.1, y4.2.2.2.2.2), r1019))
                      else none
                    else none
                  else none
                else none
              else none
          else none
      else
        some (.inr (t7, r2, r4))
    else
      some (.inr (t7, r2, r4))

noncomputable def anns10_0 : Ann := .none
noncomputable def Fs10 : (List Int) → Option (((Nat → Int) × Int))
  | a0 =>
    if ((a0.length : Int) != 48) = true then
      some ((fun _ => 0), 91)
    else
      (Fs15 ((5, a0, false, 0, (fun _ => 0), 0), 8)).bind fun (y1, y2) =>
        (loopO steps10_0 (207, 0, (fun _ => 0), (fun _ => 0), (y2.1, y2.2.1, y2.2.2.1, y2.2.2.2.1, y2.2.2.2.2.1, y2.2.2.2.2.2), y1)).bind fun (z9, z10, z11) =>
          if (decide (z9 < 256)) = true then
            some ((fun _ => 0), 94)
          else
            some (z11, 0)

noncomputable def anns10 : Ann := (.seq .none (.seq .none (.seq .none (.seq .none (.seq .none (.seq .none (.seq (.seq .none (.seq (.cut (cutEnt ls10_0 os10_0 (loopO (steps10_0)))) .none)) .none)))))))
theorem eqs10_0 : ∀ s : ls10_0.T, exec stab (ofL Es9) 64 (Code.at' [1, 1, 1, 1, 1, 1, 0, 1, 0, 0] bodys10) anns10_0 (fun e st => loopEnd (l := ls10_0) (outs := os10_0) e st) (ls10_0.enc s) = steps10_0 s := by
  rintro ⟨t7, t8, r2, r4, r17, r1019⟩
  kernel_rfl
theorem oks10_0 : LOk Go.Proofs.Try.prog 64 (cutEnt ls10_0 os10_0 (loopO steps10_0)) (Code.at' [1, 1, 1, 1, 1, 1, 0, 1, 0] bodys10) := by
  have e : Code.at' [1, 1, 1, 1, 1, 1, 0, 1, 0] bodys10 = .loop (Code.at' [1, 1, 1, 1, 1, 1, 0, 1, 0, 0] bodys10) := by kernel_rfl
  rw [e]
  refine loop_ok cs10 64 rfl rfl (annOk_of_cuts ?_) eqs10_0
  intro x hx
  exact absurd hx (by show x ∉ ([] : List (List Nat × LEnt)); simp)

theorem eqs10 : ∀ x : Ss10.inT, exec stab (ofL Es9) 64 bodys10 anns10 (finL stab Ss10) (Ss10.inp.enc x) = Fs10 x := by
  intro x
  kernel_rfl
theorem callss10 : CallsL Go.Proofs.Try.prog 10 Ss10 Fs10 := by
  refine fun_callsL (fn := Go.Proofs.Try.f10) (c := bodys10) (ann := anns10) cs10 (by kernel_rfl) (by kernel_rfl) (by kernel_rfl) (by kernel_rfl) (by kernel_rfl) (annOk_of_cuts ?_) eqs10
  have hc : Ann.cuts anns10 = [([1, 1, 1, 1, 1, 1, 0, 1, 0], (cutEnt ls10_0 os10_0 (loopO (steps10_0))))] := by kernel_rfl
  rw [hc]
  intro x hx
  simp only [List.mem_cons, List.not_mem_nil, or_false] at hx
  rcases hx with rfl
  · have e : Code.at' [1, 1, 1, 1, 1, 1, 0, 1, 0] bodys10 = Code.at' [1, 1, 1, 1, 1, 1, 0, 1, 0] bodys10 := by kernel_rfl
    rw [e]; exact oks10_0

theorem ents10 : EntOk Go.Proofs.Try.prog 10 (funEntL Ss10 true Fs10) := fun_okL (fn := Go.Proofs.Try.f10) (c := bodys10) (by kernel_rfl) (by kernel_rfl) (by kernel_rfl) (by kernel_rfl) callss10
noncomputable def Es10 : List (Nat × Ent) := (10, funEntL Ss10 true Fs10) :: Es9
theorem Es10_ok : EntsOk Go.Proofs.Try.prog (ofL Es10) := .cons ents10 Es9_ok

/-! ### barbican/barbicanlaw09.PackSamples -/
noncomputable def bodys3 : Code := (Go.Proofs.Try.f3.body).getD .skip
abbrev Ss3 : FL := ⟨⟨[], [.env 0 (.c (.fz (.int .u8)))], []⟩, 1, [(.ret, ⟨[], [.env 0 (.c (.bool))], []⟩)], [.tmp 2], false⟩
noncomputable def cs3 : Ctx Go.Proofs.Try.prog := ⟨stab, ofL Es10, stabOk, Es10_ok, sdep, sord⟩
noncomputable def Fs3 : (List Int) → Option ((Bool))
  | a0 =>
    (Fs4 ()).bind fun y1 =>
      (Fs5 a0).bind fun (y2, y3) =>
        (Fs6 a0).bind fun (y4, y5) =>
          (Fs7 a0).bind fun (y6, y7) =>
            (Fs8 a0).bind fun (y8, y9) =>
              (Fs9 a0).bind fun (y10, y11) =>
                (Fs10 a0).bind fun (y12, y13) =>
                  if y1 = true then
                    if (arrEq 256 y2 y8) = true then
                      if (arrEq 256 y4 y10) = true then
                        if (arrEq 256 y6 y12) = true then
                          if (y3 == y9) = true then
                            if (y5 == y11) = true then
                              some (y7 == y13)
                            else
                              some false
                          else
                            some false
                        else
                          some false
                      else
                        some false
                    else
                      some false
                  else
                    some false

noncomputable def anns3 : Ann := .none
theorem eqs3 : ∀ x : Ss3.inT, exec stab (ofL Es10) 78 bodys3 anns3 (finL stab Ss3) (Ss3.inp.enc x) = Fs3 x := by
  intro x
  kernel_rfl
theorem callss3 : CallsL Go.Proofs.Try.prog 3 Ss3 Fs3 := by
  refine fun_callsL (fn := Go.Proofs.Try.f3) (c := bodys3) (ann := anns3) cs3 (by kernel_rfl) (by kernel_rfl) (by kernel_rfl) (by kernel_rfl) (by kernel_rfl) (annOk_of_cuts ?_) eqs3
  intro x hx
  exact absurd hx (by show x ∉ ([] : List (List Nat × LEnt)); simp)

theorem ents3 : EntOk Go.Proofs.Try.prog 3 (funEntL Ss3 true Fs3) := fun_okL (fn := Go.Proofs.Try.f3) (c := bodys3) (by kernel_rfl) (by kernel_rfl) (by kernel_rfl) (by kernel_rfl) callss3
noncomputable def Es3 : List (Nat × Ent) := (3, funEntL Ss3 true Fs3) :: Es10
theorem Es3_ok : EntsOk Go.Proofs.Try.prog (ofL Es3) := .cons ents3 Es10_ok
end Go.Abs
