import Derived.Test.YthihjipdkhmgkaaAbsTabL
import Derived.Test.YthihjipdkhmgkaaChecked
import Derived.KernelRfl
set_option linter.unusedVariables false
set_option maxRecDepth 100000
namespace Go.Abs
def htab : Tab := [
  (3, ⟨.int .i64, 1, 8, [.int .i64 0]⟩),
  (4, ⟨.bool, 1, 1, [.bool false]⟩),
  (5, ⟨.int .u8, 1, 1, [.int .u8 0]⟩),
  (21, ⟨.int .i32, 1, 4, [.int .i32 0]⟩),
  (23, ⟨.array 256 21, 256, 1024, [.ints .i32 256 (fun _ => 0)]⟩),
  (24, ⟨.array 6 23, 1536, 6144, [.ints .i32 1536 (fun _ => 0)]⟩),
  (25, ⟨.slice 5, 1, 24, [.val (.slice none 0 0)]⟩),
  (41, ⟨.int .u32, 1, 4, [.int .u32 0]⟩),
  (42, ⟨.array 256 41, 256, 1024, [.ints .u32 256 (fun _ => 0)]⟩),
  (46, ⟨.int .u64, 1, 8, [.int .u64 0]⟩)]
theorem htabOk : TabOk Go.Proofs.Try.prog htab := tabChk_ok (by kernel_rfl)
theorem hdep : 4 ≤ (Go.Proofs.Try.prog).depth := by
  have : Nat.ble 4 ((Go.Proofs.Try.prog).depth) = true := by kernel_rfl
  exact Nat.le_of_ble_eq_true this
theorem hord : (Go.Proofs.Try.prog).follows .mixedOrders = true := by kernel_rfl
noncomputable def hE0 : List (Nat × Ent) := []
theorem hE0_ok : EntsOk Go.Proofs.Try.prog (ofL hE0) := .nil _

/-! ### barbican/pack.lay -/
noncomputable def bodyh14 : Code := (Go.Proofs.Try.f14.body).getD .skip
abbrev Sh14 : FL := ⟨⟨[], [.env 0 (.agg [.ints .u32 256]), .env 1 (.c (.int .i64))], []⟩, 2, [(.ret, ⟨[(0, .full 1)], [.reg 1 (.row 5 .u8)], [(1, .env 0 0)]⟩)], [.tmp 4], false⟩
noncomputable def ch14 : Ctx Go.Proofs.Try.prog := ⟨htab, ofL hE0, htabOk, hE0_ok, hdep, hord⟩
abbrev lh14_1 : Lay := ⟨[(5, .full 12)], [.env 1 (.c (.int .i64)), .env 6 (.c (.int .u64)), .env 7 (.c (.int .i64)), .env 13 (.agg [.ints .u32 256]), .env 14 (.c (.int .i64)), .reg 12 (.row 5 .u8)], [(12, .env 5 0)]⟩
abbrev oh14_1 : List (AExit × Lay) := [(.exit 2, ⟨[(5, .full 12)], [.env 1 (.c (.int .i64)), .env 6 (.c (.int .u64)), .env 7 (.c (.int .i64)), .env 13 (.agg [.ints .u32 256]), .env 14 (.c (.int .i64)), .reg 12 (.row 5 .u8)], [(12, .env 5 0)]⟩)]
noncomputable def steph14_1 : Int × Int × Int × (Nat → Int) × Int × List Int → Option ((Int × Int × Int × (Nat → Int) × Int × List Int) ⊕ ((Int × Int × Int × (Nat → Int) × Int × List Int)))
  | (t1, t6, t7, t13, t14, r12) =>
  if (decide (t7 ≥ 8)) = true then
   if okBytes (r12.length + ((List.replicate 1 (0 : Int)).set 0 (IntKind.u8.wrap t6)).length) 1 then
    let f2 : List Int := (r12 ++ ((List.replicate 1 (0 : Int)).set 0 (IntKind.u8.wrap t6)))
    some (.inl (t1, (shrI .u64 t6 8), (IntKind.i64.wrap (t7 - 8)), t13, t14, f2))
   else none
  else
   some (.inr (t1, t6, t7, t13, t14, r12))

noncomputable def annh14_1 : Ann := .none
abbrev lh14_0 : Lay := ⟨[(5, .full 12)], [.env 1 (.c (.int .i64)), .env 6 (.c (.int .u64)), .env 7 (.c (.int .i64)), .env 13 (.agg [.ints .u32 256]), .env 14 (.c (.int .i64)), .reg 12 (.row 5 .u8)], [(12, .env 5 0)]⟩
abbrev oh14_0 : List (AExit × Lay) := [(.exit 0, ⟨[(5, .full 12)], [.reg 12 (.row 5 .u8)], [(12, .env 5 0)]⟩)]
noncomputable def steph14_0 : Int × Int × Int × (Nat → Int) × Int × List Int → Option ((Int × Int × Int × (Nat → Int) × Int × List Int) ⊕ ((List Int)))
  | (t1, t6, t7, t13, t14, r12) =>
  if (decide (t14 < 256)) = true then
   if (0 : Int) ≤ t14 ∧ t14 < (256 : Int) then
    if 0 ≤ t7 then
     let x1 : Int := (bitsOr .u64 t6 (shlI .u64 (IntKind.u64.wrap (t13 t14.toNat)) t7))
     (loopO steph14_1 (t1, x1, (IntKind.i64.wrap (t7 + t1)), t13, t14, r12)).bind fun (z3, z4, z5, z6, z7, z8) =>
      some (.inl (z3, z4, z5, z6, (IntKind.i64.wrap (z7 + 1)), z8))
    else none
   else none
  else
   some (.inr r12)

noncomputable def annh14_0 : Ann := (.seq .none (.seq .none (.seq (.seq (.seq .none (.seq .none (.seq .none (.seq (.cut (cutEnt lh14_1 oh14_1 (loopO (steph14_1)))) .none)))) .none) .none)))
noncomputable def Fh14 : (Nat → Int) × Int → Option ((List Int))
  | (a0, a1) =>
  if 0 ≤ (0 : Int) ∧ (0 : Int) ≤ (IntKind.i64.wrap (32 * a1)) ∧ okBytes (IntKind.i64.wrap (32 * a1)).toNat 1 then
   (loopO steph14_0 (a1, 0, 0, a0, 0, (List.replicate 0 (0 : Int)))).bind fun z9 =>
    some z9
  else none

noncomputable def annh14 : Ann := (.seq .none (.seq .none (.seq .none (.seq (.seq .none (.seq (.cut (cutEnt lh14_0 oh14_0 (loopO (steph14_0)))) .none)) .none))))
theorem eqh14_1 : ∀ s : lh14_1.T, exec htab (ofL hE0) 39 (Code.at' [1, 1, 1, 0, 1, 0, 0, 1, 1, 0, 0, 1, 1, 1, 0, 0] bodyh14) annh14_1 (fun e st => loopEnd (l := lh14_1) (outs := oh14_1) e st) (lh14_1.enc s) = steph14_1 s := by
  rintro ⟨t1, t6, t7, t13, t14, r12⟩
  kernel_rfl
theorem okh14_1 : LOk Go.Proofs.Try.prog 39 (cutEnt lh14_1 oh14_1 (loopO steph14_1)) (Code.at' [1, 1, 1, 0, 1, 0, 0, 1, 1, 0, 0, 1, 1, 1, 0] bodyh14) := by
  have e : Code.at' [1, 1, 1, 0, 1, 0, 0, 1, 1, 0, 0, 1, 1, 1, 0] bodyh14 = .loop (Code.at' [1, 1, 1, 0, 1, 0, 0, 1, 1, 0, 0, 1, 1, 1, 0, 0] bodyh14) := by kernel_rfl
  rw [e]
  refine loop_ok ch14 39 rfl rfl (annOk_of_cuts ?_) eqh14_1
  intro x hx
  exact absurd hx (by show x ∉ ([] : List (List Nat × LEnt)); simp)

theorem eqh14_0 : ∀ s : lh14_0.T, exec htab (ofL hE0) 39 (Code.at' [1, 1, 1, 0, 1, 0, 0] bodyh14) annh14_0 (fun e st => loopEnd (l := lh14_0) (outs := oh14_0) e st) (lh14_0.enc s) = steph14_0 s := by
  rintro ⟨t1, t6, t7, t13, t14, r12⟩
  kernel_rfl
theorem okh14_0 : LOk Go.Proofs.Try.prog 39 (cutEnt lh14_0 oh14_0 (loopO steph14_0)) (Code.at' [1, 1, 1, 0, 1, 0] bodyh14) := by
  have e : Code.at' [1, 1, 1, 0, 1, 0] bodyh14 = .loop (Code.at' [1, 1, 1, 0, 1, 0, 0] bodyh14) := by kernel_rfl
  rw [e]
  refine loop_ok ch14 39 rfl rfl (annOk_of_cuts ?_) eqh14_0
  have hc : Ann.cuts annh14_0 = [([1, 1, 0, 0, 1, 1, 1, 0], (cutEnt lh14_1 oh14_1 (loopO (steph14_1))))] := by kernel_rfl
  rw [hc]
  intro x hx
  simp only [List.mem_cons, List.not_mem_nil, or_false] at hx
  rcases hx with rfl
  · have e : Code.at' [1, 1, 0, 0, 1, 1, 1, 0] (Code.at' [1, 1, 1, 0, 1, 0, 0] bodyh14) = Code.at' [1, 1, 1, 0, 1, 0, 0, 1, 1, 0, 0, 1, 1, 1, 0] bodyh14 := by kernel_rfl
    rw [e]; exact okh14_1

theorem eqh14 : ∀ x : Sh14.inT, exec htab (ofL hE0) 39 bodyh14 annh14 (finL htab Sh14) (Sh14.inp.enc x) = Fh14 x := by
  rintro ⟨a0, a1⟩
  kernel_rfl
theorem callsh14 : CallsL Go.Proofs.Try.prog 14 Sh14 Fh14 := by
  refine fun_callsL (fn := Go.Proofs.Try.f14) (c := bodyh14) (ann := annh14) ch14 (by kernel_rfl) (by kernel_rfl) (by kernel_rfl) (by kernel_rfl) (by kernel_rfl) (annOk_of_cuts ?_) eqh14
  have hc : Ann.cuts annh14 = [([1, 1, 1, 0, 1, 0], (cutEnt lh14_0 oh14_0 (loopO (steph14_0))))] := by kernel_rfl
  rw [hc]
  intro x hx
  simp only [List.mem_cons, List.not_mem_nil, or_false] at hx
  rcases hx with rfl
  · have e : Code.at' [1, 1, 1, 0, 1, 0] bodyh14 = Code.at' [1, 1, 1, 0, 1, 0] bodyh14 := by kernel_rfl
    rw [e]; exact okh14_0

theorem enth14 : EntOk Go.Proofs.Try.prog 14 (funEntL Sh14 true Fh14) := fun_okL (fn := Go.Proofs.Try.f14) (c := bodyh14) (by kernel_rfl) (by kernel_rfl) (by kernel_rfl) (by kernel_rfl) callsh14
noncomputable def Eh14 : List (Nat × Ent) := (14, (funEntL Sh14 true Fh14)) :: hE0
theorem Eh14_ok : EntsOk Go.Proofs.Try.prog (ofL Eh14) := .cons enth14 hE0_ok

/-! ### barbican/pack.Up -/
noncomputable def bodyh10 : Code := (Go.Proofs.Try.f10.body).getD .skip
abbrev Sh10 : FL := ⟨⟨[], [.env 0 (.agg [.ints .i32 256]), .env 1 (.c (.int .i64))], []⟩, 2, [(.ret, ⟨[(0, .full 1)], [.reg 1 (.row 5 .u8), .env 1 (.c (.int .i64))], [(1, .env 0 0)]⟩)], [.tmp 4, .tmp 5], false⟩
noncomputable def ch10 : Ctx Go.Proofs.Try.prog := ⟨htab, ofL Eh14, htabOk, Eh14_ok, hdep, hord⟩
abbrev lh10_0 : Lay := ⟨[(6, .ptr 6 0 256)], [.env 1 (.c (.int .i64)), .env 15 (.agg [.ints .i32 256]), .env 16 (.c (.int .i64)), .reg 6 (.cells [.ints .u32 256])], [(6, .env 6 0)]⟩
abbrev oh10_0 : List (AExit × Lay) := [(.ret, ⟨[(4, .full 4)], [.env 5 (.c (.int .i64)), .reg 4 (.row 5 .u8)], [(4, .env 4 0)]⟩), (.exit 0, ⟨[(6, .ptr 6 0 256)], [.env 1 (.c (.int .i64)), .reg 6 (.cells [.ints .u32 256])], [(6, .env 6 0)]⟩)]
noncomputable def steph10_0 : Int × (Nat → Int) × Int × (Nat → Int) → Option ((Int × (Nat → Int) × Int × (Nat → Int)) ⊕ ((Int × List Int) ⊕ (Int × (Nat → Int))))
  | (t1, t15, t16, r6) =>
  if (decide (t16 < 256)) = true then
   if (0 : Int) ≤ t16 ∧ t16 < (256 : Int) then
    if (decide ((t15 t16.toNat) < 0)) = false then
     if (decide ((t15 t16.toNat) ≥ 8380417)) = false then
      if 0 ≤ t1 then
       if ((shrI .i32 (t15 t16.toNat) t1) != 0) = true then
        some (.inr (.inl (92, ([] : List Int))))
       else
        if (0 : Int) ≤ t16 ∧ t16 < ((256 : Int) : Int) then
         some (.inl (t1, t15, (IntKind.i64.wrap (t16 + 1)), (upd r6 t16.toNat (IntKind.u32.wrap (t15 t16.toNat)))))
        else none
      else none
     else
      some (.inr (.inl (92, ([] : List Int))))
    else
     some (.inr (.inl (92, ([] : List Int))))
   else none
  else
   some (.inr (.inr (t1, r6)))

noncomputable def annh10_0 : Ann := .none
noncomputable def Fh10 : (Nat → Int) × Int → Option ((List Int × Int))
  | (a0, a1) =>
  if (decide (a1 < 1)) = false then
   if (decide (a1 > 23)) = true then
    some (([] : List Int), 1)
   else
    (loopO steph10_0 (a1, a0, 0, (fun _ => 0))).bind fun
     | (.inl (z1, z2)) =>
      some (z2, z1)
     | (.inr (z3, z4)) =>
      (Fh14 (z4, z3)).bind fun y5 =>
       some (y5, 0)
  else
   some (([] : List Int), 1)

noncomputable def annh10 : Ann := (.seq .none (.seq .none (.seq .none (.seq (.seq .none (.seq (.cut (cutEnt lh10_0 oh10_0 (loopO (steph10_0)))) .none)) .none))))
theorem eqh10_0 : ∀ s : lh10_0.T, exec htab (ofL Eh14) 40 (Code.at' [1, 1, 1, 0, 1, 0, 0] bodyh10) annh10_0 (fun e st => loopEnd (l := lh10_0) (outs := oh10_0) e st) (lh10_0.enc s) = steph10_0 s := by
  rintro ⟨t1, t15, t16, r6⟩
  kernel_rfl
theorem okh10_0 : LOk Go.Proofs.Try.prog 40 (cutEnt lh10_0 oh10_0 (loopO steph10_0)) (Code.at' [1, 1, 1, 0, 1, 0] bodyh10) := by
  have e : Code.at' [1, 1, 1, 0, 1, 0] bodyh10 = .loop (Code.at' [1, 1, 1, 0, 1, 0, 0] bodyh10) := by kernel_rfl
  rw [e]
  refine loop_ok ch10 40 rfl rfl (annOk_of_cuts ?_) eqh10_0
  intro x hx
  exact absurd hx (by show x ∉ ([] : List (List Nat × LEnt)); simp)

theorem eqh10 : ∀ x : Sh10.inT, exec htab (ofL Eh14) 40 bodyh10 annh10 (finL htab Sh10) (Sh10.inp.enc x) = Fh10 x := by
  rintro ⟨a0, a1⟩
  kernel_rfl
theorem callsh10 : CallsL Go.Proofs.Try.prog 10 Sh10 Fh10 := by
  refine fun_callsL (fn := Go.Proofs.Try.f10) (c := bodyh10) (ann := annh10) ch10 (by kernel_rfl) (by kernel_rfl) (by kernel_rfl) (by kernel_rfl) (by kernel_rfl) (annOk_of_cuts ?_) eqh10
  have hc : Ann.cuts annh10 = [([1, 1, 1, 0, 1, 0], (cutEnt lh10_0 oh10_0 (loopO (steph10_0))))] := by kernel_rfl
  rw [hc]
  intro x hx
  simp only [List.mem_cons, List.not_mem_nil, or_false] at hx
  rcases hx with rfl
  · have e : Code.at' [1, 1, 1, 0, 1, 0] bodyh10 = Code.at' [1, 1, 1, 0, 1, 0] bodyh10 := by kernel_rfl
    rw [e]; exact okh10_0

theorem enth10 : EntOk Go.Proofs.Try.prog 10 (funEntL Sh10 true Fh10) := fun_okL (fn := Go.Proofs.Try.f10) (c := bodyh10) (by kernel_rfl) (by kernel_rfl) (by kernel_rfl) (by kernel_rfl) callsh10
noncomputable def Eh10 : List (Nat × Ent) := (10, (funEntL Sh10 true Fh10)) :: Eh14
theorem Eh10_ok : EntsOk Go.Proofs.Try.prog (ofL Eh10) := .cons enth10 Eh14_ok

/-! ### barbican/pack.wrong -/
noncomputable def bodyh15 : Code := (Go.Proofs.Try.f15.body).getD .skip
abbrev Sh15 : FL := ⟨⟨[], [.env 0 (.c (.int .i32)), .env 1 (.c (.int .i64))], []⟩, 2, [(.ret, ⟨[], [.env 0 (.c (.bool))], []⟩)], [.tmp 4], false⟩
noncomputable def ch15 : Ctx Go.Proofs.Try.prog := ⟨htab, ofL Eh10, htabOk, Eh10_ok, hdep, hord⟩
noncomputable def Fh15 : Int × Int → Option ((Bool))
  | (a0, a1) =>
  if (decide (a1 < 1)) = false then
   if (decide (a1 > 22)) = false then
    if (decide (a0 < 0)) = false then
     some (decide (a0 > 4194304))
    else
     some true
   else
    some true
  else
   some true

noncomputable def annh15 : Ann := .none
theorem eqh15 : ∀ x : Sh15.inT, exec htab (ofL Eh10) 19 bodyh15 annh15 (finL htab Sh15) (Sh15.inp.enc x) = Fh15 x := by
  rintro ⟨a0, a1⟩
  kernel_rfl
theorem callsh15 : CallsL Go.Proofs.Try.prog 15 Sh15 Fh15 := by
  refine fun_callsL (fn := Go.Proofs.Try.f15) (c := bodyh15) (ann := annh15) ch15 (by kernel_rfl) (by kernel_rfl) (by kernel_rfl) (by kernel_rfl) (by kernel_rfl) (annOk_of_cuts ?_) eqh15
  intro x hx
  exact absurd hx (by show x ∉ ([] : List (List Nat × LEnt)); simp)

theorem enth15 : EntOk Go.Proofs.Try.prog 15 (funEntL Sh15 true Fh15) := fun_okL (fn := Go.Proofs.Try.f15) (c := bodyh15) (by kernel_rfl) (by kernel_rfl) (by kernel_rfl) (by kernel_rfl) callsh15
noncomputable def Eh15 : List (Nat × Ent) := (15, (funEntL Sh15 true Fh15)) :: Eh10
theorem Eh15_ok : EntsOk Go.Proofs.Try.prog (ofL Eh15) := .cons enth15 Eh10_ok

/-! ### barbican/pack.Down -/
noncomputable def bodyh11 : Code := (Go.Proofs.Try.f11.body).getD .skip
abbrev Sh11 : FL := ⟨⟨[], [.env 0 (.agg [.ints .i32 256]), .env 1 (.c (.int .i32)), .env 2 (.c (.int .i64))], []⟩, 3, [(.ret, ⟨[(0, .full 1)], [.reg 1 (.row 5 .u8), .env 1 (.c (.int .i64))], [(1, .env 0 0)]⟩)], [.tmp 6, .tmp 7], false⟩
noncomputable def ch11 : Ctx Go.Proofs.Try.prog := ⟨htab, ofL Eh15, htabOk, Eh15_ok, hdep, hord⟩
abbrev lh11_0 : Lay := ⟨[(8, .ptr 8 0 256)], [.env 1 (.c (.int .i32)), .env 2 (.c (.int .i64)), .env 14 (.agg [.ints .i32 256]), .env 15 (.c (.int .i64)), .reg 8 (.cells [.ints .u32 256])], [(8, .env 8 0)]⟩
abbrev oh11_0 : List (AExit × Lay) := [(.ret, ⟨[(6, .full 6)], [.env 7 (.c (.int .i64)), .reg 6 (.row 5 .u8)], [(6, .env 6 0)]⟩), (.exit 0, ⟨[(8, .ptr 8 0 256)], [.env 2 (.c (.int .i64)), .reg 8 (.cells [.ints .u32 256])], [(8, .env 8 0)]⟩)]
noncomputable def steph11_0 : Int × Int × (Nat → Int) × Int × (Nat → Int) → Option ((Int × Int × (Nat → Int) × Int × (Nat → Int)) ⊕ ((Int × List Int) ⊕ (Int × (Nat → Int))))
  | (t1, t2, t14, t15, r8) =>
  if (decide (t15 < 256)) = true then
   if (0 : Int) ≤ t15 ∧ t15 < (256 : Int) then
    if (decide ((t14 t15.toNat) < 0)) = false then
     if (decide ((t14 t15.toNat) ≥ 8380417)) = true then
      some (.inr (.inl (92, ([] : List Int))))
     else
      if (decide ((t14 t15.toNat) > 4190208)) = true then
       let x2 : Int := (IntKind.i32.wrap (t1 - (IntKind.i32.wrap ((t14 t15.toNat) - 8380417))))
       if (decide (x2 < 0)) = false then
        if 0 ≤ t2 then
         if ((shrI .i32 x2 t2) != 0) = true then
          some (.inr (.inl (92, ([] : List Int))))
         else
          if (0 : Int) ≤ t15 ∧ t15 < ((256 : Int) : Int) then
           some (.inl (t1, t2, t14, (IntKind.i64.wrap (t15 + 1)), (upd r8 t15.toNat (IntKind.u32.wrap x2))))
          else none
        else none
       else
        some (.inr (.inl (92, ([] : List Int))))
      else
       if (decide ((IntKind.i32.wrap (t1 - (t14 t15.toNat))) < 0)) = false then
        if 0 ≤ t2 then
         let x3 : Bool := ((shrI .i32 (IntKind.i32.wrap (t1 - (t14 t15.toNat))) t2) != 0)
         if x3 = true then
          some (.inr (.inl (92, ([] : List Int))))
         else
          if (0 : Int) ≤ t15 ∧ t15 < ((256 : Int) : Int) then
           let f4 : Nat → Int := (upd r8 t15.toNat (IntKind.u32.wrap (IntKind.i32.wrap (t1 - (t14 t15.toNat)))))
           some (.inl (t1, t2, t14, (IntKind.i64.wrap (t15 + 1)), f4))
          else none
        else none
       else
        some (.inr (.inl (92, ([] : List Int))))
    else
     some (.inr (.inl (92, ([] : List Int))))
   else none
  else
   some (.inr (.inr (t2, r8)))

noncomputable def annh11_0 : Ann := .none
noncomputable def Fh11 : (Nat → Int) × Int × Int → Option ((List Int × Int))
  | (a0, a1, a2) =>
  (Fh15 (a1, a2)).bind fun y1 =>
   if y1 = true then
    some (([] : List Int), 1)
   else
    (loopO steph11_0 (a1, a2, a0, 0, (fun _ => 0))).bind fun
     | (.inl (z5, z6)) =>
      some (z6, z5)
     | (.inr (z7, z8)) =>
      (Fh14 (z8, z7)).bind fun y9 =>
       some (y9, 0)

noncomputable def annh11 : Ann := (.seq .none (.seq .none (.seq .none (.seq (.seq .none (.seq (.cut (cutEnt lh11_0 oh11_0 (loopO (steph11_0)))) .none)) .none))))
theorem eqh11_0 : ∀ s : lh11_0.T, exec htab (ofL Eh15) 48 (Code.at' [1, 1, 1, 0, 1, 0, 0] bodyh11) annh11_0 (fun e st => loopEnd (l := lh11_0) (outs := oh11_0) e st) (lh11_0.enc s) = steph11_0 s := by
  rintro ⟨t1, t2, t14, t15, r8⟩
  kernel_rfl
theorem okh11_0 : LOk Go.Proofs.Try.prog 48 (cutEnt lh11_0 oh11_0 (loopO steph11_0)) (Code.at' [1, 1, 1, 0, 1, 0] bodyh11) := by
  have e : Code.at' [1, 1, 1, 0, 1, 0] bodyh11 = .loop (Code.at' [1, 1, 1, 0, 1, 0, 0] bodyh11) := by kernel_rfl
  rw [e]
  refine loop_ok ch11 48 rfl rfl (annOk_of_cuts ?_) eqh11_0
  intro x hx
  exact absurd hx (by show x ∉ ([] : List (List Nat × LEnt)); simp)

theorem eqh11 : ∀ x : Sh11.inT, exec htab (ofL Eh15) 48 bodyh11 annh11 (finL htab Sh11) (Sh11.inp.enc x) = Fh11 x := by
  rintro ⟨a0, a1, a2⟩
  kernel_rfl
theorem callsh11 : CallsL Go.Proofs.Try.prog 11 Sh11 Fh11 := by
  refine fun_callsL (fn := Go.Proofs.Try.f11) (c := bodyh11) (ann := annh11) ch11 (by kernel_rfl) (by kernel_rfl) (by kernel_rfl) (by kernel_rfl) (by kernel_rfl) (annOk_of_cuts ?_) eqh11
  have hc : Ann.cuts annh11 = [([1, 1, 1, 0, 1, 0], (cutEnt lh11_0 oh11_0 (loopO (steph11_0))))] := by kernel_rfl
  rw [hc]
  intro x hx
  simp only [List.mem_cons, List.not_mem_nil, or_false] at hx
  rcases hx with rfl
  · have e : Code.at' [1, 1, 1, 0, 1, 0] bodyh11 = Code.at' [1, 1, 1, 0, 1, 0] bodyh11 := by kernel_rfl
    rw [e]; exact okh11_0

theorem enth11 : EntOk Go.Proofs.Try.prog 11 (funEntL Sh11 true Fh11) := fun_okL (fn := Go.Proofs.Try.f11) (c := bodyh11) (by kernel_rfl) (by kernel_rfl) (by kernel_rfl) (by kernel_rfl) callsh11
noncomputable def Eh11 : List (Nat × Ent) := (11, (funEntL Sh11 true Fh11)) :: Eh15
theorem Eh11_ok : EntsOk Go.Proofs.Try.prog (ofL Eh11) := .cons enth11 Eh15_ok

/-! ### barbican/barbicanlaw09.awake -/
noncomputable def bodyh4 : Code := (Go.Proofs.Try.f4.body).getD .skip
abbrev Sh4 : FL := ⟨⟨[], [], []⟩, 0, [(.ret, ⟨[], [.env 0 (.c (.bool))], []⟩)], [.tmp 0], false⟩
noncomputable def ch4 : Ctx Go.Proofs.Try.prog := ⟨htab, ofL Eh11, htabOk, Eh11_ok, hdep, hord⟩
noncomputable def Fh4 : Unit → Option ((Bool))
  | _ =>
  (Fh10 ((upd (upd (fun _ => 0) 0 0) 1 1), 1)).bind fun (y1, y2) =>
   (Fh11 ((fun _ => 0), 3, 2)).bind fun (y3, y4) =>
    if (y2 == 0) = true then
     if ((y1.length : Int) == 32) = true then
      if (0 : Int) ≤ (0 : Int) ∧ (0 : Int) < (y1.length : Int) then
       if ((y1.getD 0 0) == 2) = true then
        if (y4 == 0) = true then
         if ((y3.length : Int) == 64) = true then
          if (0 : Int) ≤ (0 : Int) ∧ (0 : Int) < (y3.length : Int) then
           some ((y3.getD 0 0) == 255)
          else none
         else
          some false
        else
         some false
       else
        some false
      else none
     else
      some false
    else
     some false

noncomputable def annh4 : Ann := .none
theorem eqh4 : ∀ x : Sh4.inT, exec htab (ofL Eh11) 43 bodyh4 annh4 (finL htab Sh4) (Sh4.inp.enc x) = Fh4 x := by
  intro x
  kernel_rfl
theorem callsh4 : CallsL Go.Proofs.Try.prog 4 Sh4 Fh4 := by
  refine fun_callsL (fn := Go.Proofs.Try.f4) (c := bodyh4) (ann := annh4) ch4 (by kernel_rfl) (by kernel_rfl) (by kernel_rfl) (by kernel_rfl) (by kernel_rfl) (annOk_of_cuts ?_) eqh4
  intro x hx
  exact absurd hx (by show x ∉ ([] : List (List Nat × LEnt)); simp)

theorem enth4 : EntOk Go.Proofs.Try.prog 4 (funEntL Sh4 true Fh4) := fun_okL (fn := Go.Proofs.Try.f4) (c := bodyh4) (by kernel_rfl) (by kernel_rfl) (by kernel_rfl) (by kernel_rfl) callsh4
noncomputable def Eh4 : List (Nat × Ent) := (4, (funEntL Sh4 true Fh4)) :: Eh11
theorem Eh4_ok : EntsOk Go.Proofs.Try.prog (ofL Eh4) := .cons enth4 Eh11_ok

/-! ### barbican/pack.Hints -/
noncomputable def bodyh5 : Code := (Go.Proofs.Try.f5.body).getD .skip
abbrev Sh5 : FL := ⟨⟨[], [.env 0 (.agg [.ints .i32 1536])], []⟩, 1, [(.ret, ⟨[(0, .full 1)], [.reg 1 (.row 5 .u8), .env 1 (.c (.int .i64))], [(1, .env 0 0)]⟩)], [.tmp 2, .tmp 3], false⟩
noncomputable def ch5 : Ctx Go.Proofs.Try.prog := ⟨htab, ofL Eh4, htabOk, Eh4_ok, hdep, hord⟩
abbrev lh5_1 : Lay := ⟨[(4, .full 10)], [.env 5 (.c (.int .i64)), .env 6 (.c (.int .i64)), .env 11 (.agg [.ints .i32 1536]), .env 12 (.c (.int .i64)), .env 16 (.agg [.ints .i32 256]), .env 17 (.c (.int .i64)), .reg 10 (.row 5 .u8)], [(10, .env 4 0)]⟩
abbrev oh5_1 : List (AExit × Lay) := [(.ret, ⟨[(2, .full 2)], [.env 3 (.c (.int .i64)), .reg 2 (.row 5 .u8)], [(2, .env 2 0)]⟩), (.exit 2, ⟨[(4, .full 10)], [.env 5 (.c (.int .i64)), .env 6 (.c (.int .i64)), .env 11 (.agg [.ints .i32 1536]), .env 12 (.c (.int .i64)), .reg 10 (.row 5 .u8)], [(10, .env 4 0)]⟩)]
noncomputable def steph5_1 : Int × Int × (Nat → Int) × Int × (Nat → Int) × Int × List Int → Option ((Int × Int × (Nat → Int) × Int × (Nat → Int) × Int × List Int) ⊕ ((Int × List Int) ⊕ (Int × Int × (Nat → Int) × Int × List Int)))
  | (t5, t6, t11, t12, t16, t17, r10) =>
  if (decide (t17 < 256)) = true then
   if (0 : Int) ≤ t17 ∧ t17 < (256 : Int) then
    if ((shrI .i32 (t16 t17.toNat) 1) != 0) = false then
     if ((t16 t17.toNat) == 1) = true then
      if (t5 == 55) = true then
       some (.inr (.inl (93, ([] : List Int))))
      else
       if ((t16 t17.toNat) == 1) = true then
        if (0 : Int) ≤ t5 ∧ t5 < (r10.length : Int) then
         some (.inl ((IntKind.i64.wrap (t5 + 1)), t6, t11, t12, t16, (IntKind.i64.wrap (t17 + 1)), (r10.set t5.toNat (IntKind.u8.wrap t17))))
        else none
       else
        some (.inl (t5, t6, t11, t12, t16, (IntKind.i64.wrap (t17 + 1)), r10))
     else
      if ((t16 t17.toNat) == 1) = true then
       if (0 : Int) ≤ t5 ∧ t5 < (r10.length : Int) then
        some (.inl ((IntKind.i64.wrap (t5 + 1)), t6, t11, t12, t16, (IntKind.i64.wrap (t17 + 1)), (r10.set t5.toNat (IntKind.u8.wrap t17))))
       else none
      else
       some (.inl (t5, t6, t11, t12, t16, (IntKind.i64.wrap (t17 + 1)), r10))
    else
     some (.inr (.inl (93, ([] : List Int))))
   else none
  else
   some (.inr (.inr (t5, t6, t11, t12, r10)))

noncomputable def annh5_1 : Ann := .none
abbrev lh5_0 : Lay := ⟨[(4, .full 10)], [.env 5 (.c (.int .i64)), .env 11 (.agg [.ints .i32 1536]), .env 12 (.c (.int .i64)), .reg 10 (.row 5 .u8)], [(10, .env 4 0)]⟩
abbrev oh5_0 : List (AExit × Lay) := [(.ret, ⟨[(2, .full 2)], [.env 3 (.c (.int .i64)), .reg 2 (.row 5 .u8)], [(2, .env 2 0)]⟩), (.exit 0, ⟨[(4, .full 10)], [.reg 10 (.row 5 .u8)], [(10, .env 4 0)]⟩)]
noncomputable def steph5_0 : Int × (Nat → Int) × Int × List Int → Option ((Int × (Nat → Int) × Int × List Int) ⊕ ((Int × List Int) ⊕ (List Int)))
  | (t5, t11, t12, r10) =>
  if (decide (t12 < 6)) = true then
   if (0 : Int) ≤ t12 ∧ t12 < (6 : Int) then
    (loopO steph5_1 (t5, t12, t11, t12, (fun j => t11 (t12.toNat * 256 + j)), 0, r10)).bind fun
     | (.inl (z1, z2)) =>
      some (.inr (.inl (z1, z2)))
     | (.inr (z3, z4, z5, z6, z7)) =>
      if (0 : Int) ≤ (IntKind.i64.wrap (55 + z4)) ∧ (IntKind.i64.wrap (55 + z4)) < (z7.length : Int) then
       let f8 : List Int := (z7.set (IntKind.i64.wrap (55 + z4)).toNat (IntKind.u8.wrap z3))
       some (.inl (z3, z5, (IntKind.i64.wrap (z6 + 1)), f8))
      else none
   else none
  else
   some (.inr (.inr r10))

noncomputable def annh5_0 : Ann := (.seq .none (.seq .none (.seq (.seq (.seq .none (.seq (.seq .none (.seq (.cut (cutEnt lh5_1 oh5_1 (loopO (steph5_1)))) .none)) .none)) .none) .none)))
noncomputable def Fh5 : (Nat → Int) → Option ((List Int × Int))
  | a0 =>
  if 0 ≤ (61 : Int) ∧ (61 : Int) ≤ 61 ∧ okBytes 61 1 then
   (loopO steph5_0 (0, a0, 0, (List.replicate 61 (0 : Int)))).bind fun
    | (.inl (z9, z10)) =>
     some (z10, z9)
    | (.inr z11) =>
     some (z11, 0)
  else none

noncomputable def annh5 : Ann := (.seq .none (.seq .none (.seq .none (.seq (.seq .none (.seq (.cut (cutEnt lh5_0 oh5_0 (loopO (steph5_0)))) .none)) .none))))
theorem eqh5_1 : ∀ s : lh5_1.T, exec htab (ofL Eh4) 50 (Code.at' [1, 1, 1, 0, 1, 0, 0, 1, 1, 0, 0, 1, 0, 1, 0, 0] bodyh5) annh5_1 (fun e st => loopEnd (l := lh5_1) (outs := oh5_1) e st) (lh5_1.enc s) = steph5_1 s := by
  rintro ⟨t5, t6, t11, t12, t16, t17, r10⟩
  kernel_rfl
theorem okh5_1 : LOk Go.Proofs.Try.prog 50 (cutEnt lh5_1 oh5_1 (loopO steph5_1)) (Code.at' [1, 1, 1, 0, 1, 0, 0, 1, 1, 0, 0, 1, 0, 1, 0] bodyh5) := by
  have e : Code.at' [1, 1, 1, 0, 1, 0, 0, 1, 1, 0, 0, 1, 0, 1, 0] bodyh5 = .loop (Code.at' [1, 1, 1, 0, 1, 0, 0, 1, 1, 0, 0, 1, 0, 1, 0, 0] bodyh5) := by kernel_rfl
  rw [e]
  refine loop_ok ch5 50 rfl rfl (annOk_of_cuts ?_) eqh5_1
  intro x hx
  exact absurd hx (by show x ∉ ([] : List (List Nat × LEnt)); simp)

theorem eqh5_0 : ∀ s : lh5_0.T, exec htab (ofL Eh4) 50 (Code.at' [1, 1, 1, 0, 1, 0, 0] bodyh5) annh5_0 (fun e st => loopEnd (l := lh5_0) (outs := oh5_0) e st) (lh5_0.enc s) = steph5_0 s := by
  rintro ⟨t5, t11, t12, r10⟩
  kernel_rfl
theorem okh5_0 : LOk Go.Proofs.Try.prog 50 (cutEnt lh5_0 oh5_0 (loopO steph5_0)) (Code.at' [1, 1, 1, 0, 1, 0] bodyh5) := by
  have e : Code.at' [1, 1, 1, 0, 1, 0] bodyh5 = .loop (Code.at' [1, 1, 1, 0, 1, 0, 0] bodyh5) := by kernel_rfl
  rw [e]
  refine loop_ok ch5 50 rfl rfl (annOk_of_cuts ?_) eqh5_0
  have hc : Ann.cuts annh5_0 = [([1, 1, 0, 0, 1, 0, 1, 0], (cutEnt lh5_1 oh5_1 (loopO (steph5_1))))] := by kernel_rfl
  rw [hc]
  intro x hx
  simp only [List.mem_cons, List.not_mem_nil, or_false] at hx
  rcases hx with rfl
  · have e : Code.at' [1, 1, 0, 0, 1, 0, 1, 0] (Code.at' [1, 1, 1, 0, 1, 0, 0] bodyh5) = Code.at' [1, 1, 1, 0, 1, 0, 0, 1, 1, 0, 0, 1, 0, 1, 0] bodyh5 := by kernel_rfl
    rw [e]; exact okh5_1

theorem eqh5 : ∀ x : Sh5.inT, exec htab (ofL Eh4) 50 bodyh5 annh5 (finL htab Sh5) (Sh5.inp.enc x) = Fh5 x := by
  intro x
  kernel_rfl
theorem callsh5 : CallsL Go.Proofs.Try.prog 5 Sh5 Fh5 := by
  refine fun_callsL (fn := Go.Proofs.Try.f5) (c := bodyh5) (ann := annh5) ch5 (by kernel_rfl) (by kernel_rfl) (by kernel_rfl) (by kernel_rfl) (by kernel_rfl) (annOk_of_cuts ?_) eqh5
  have hc : Ann.cuts annh5 = [([1, 1, 1, 0, 1, 0], (cutEnt lh5_0 oh5_0 (loopO (steph5_0))))] := by kernel_rfl
  rw [hc]
  intro x hx
  simp only [List.mem_cons, List.not_mem_nil, or_false] at hx
  rcases hx with rfl
  · have e : Code.at' [1, 1, 1, 0, 1, 0] bodyh5 = Code.at' [1, 1, 1, 0, 1, 0] bodyh5 := by kernel_rfl
    rw [e]; exact okh5_0

theorem enth5 : EntOk Go.Proofs.Try.prog 5 (funEntL Sh5 true Fh5) := fun_okL (fn := Go.Proofs.Try.f5) (c := bodyh5) (by kernel_rfl) (by kernel_rfl) (by kernel_rfl) (by kernel_rfl) callsh5
noncomputable def Eh5 : List (Nat × Ent) := (5, (funEntL Sh5 true Fh5)) :: Eh4
theorem Eh5_ok : EntsOk Go.Proofs.Try.prog (ofL Eh5) := .cons enth5 Eh4_ok

/-! ### barbican/barbicanref09.Hints -/
noncomputable def bodyh6 : Code := (Go.Proofs.Try.f6.body).getD .skip
abbrev Sh6 : FL := ⟨⟨[], [.env 0 (.agg [.ints .i32 1536])], []⟩, 1, [(.ret, ⟨[(0, .full 1)], [.reg 1 (.row 5 .u8), .env 1 (.c (.bool))], [(1, .env 0 0)]⟩)], [.tmp 2, .tmp 3], false⟩
noncomputable def ch6 : Ctx Go.Proofs.Try.prog := ⟨htab, ofL Eh5, htabOk, Eh5_ok, hdep, hord⟩
abbrev lh6_1 : Lay := ⟨[(1, .ptr 1 0 1536), (4, .full 4), (5, .full 5)], [.env 6 (.c (.int .i64)), .env 7 (.c (.int .i64)), .reg 1 (.cells [.ints .i32 1536]), .reg 4 (.row 5 .u8), .reg 5 (.row 5 .u8)], [(1, .env 1 0), (4, .env 4 0), (5, .env 5 0)]⟩
abbrev oh6_1 : List (AExit × Lay) := [(.ret, ⟨[(2, .full 2)], [.env 3 (.c (.bool)), .reg 2 (.row 5 .u8)], [(2, .env 2 0)]⟩), (.exit 2, ⟨[(1, .ptr 1 0 1536), (4, .full 4), (5, .full 5)], [.env 6 (.c (.int .i64)), .reg 1 (.cells [.ints .i32 1536]), .reg 4 (.row 5 .u8), .reg 5 (.row 5 .u8)], [(1, .env 1 0), (4, .env 4 0), (5, .env 5 0)]⟩)]
noncomputable def steph6_1 : Int × Int × (Nat → Int) × List Int × List Int → Option ((Int × Int × (Nat → Int) × List Int × List Int) ⊕ ((Bool × List Int) ⊕ (Int × (Nat → Int) × List Int × List Int)))
  | (t6, t7, r1, r4, r5) =>
  if (decide (t7 < 256)) = true then
   if (0 : Int) ≤ t6 ∧ t6 < ((6 : Int) : Int) then
    if (0 : Int) ≤ t7 ∧ t7 < ((256 : Int) : Int) then
     if ((r1 ((t6.toNat * 256) + t7.toNat)) != 0) = true then
      if (0 : Int) ≤ t6 ∧ t6 < ((6 : Int) : Int) then
       if (0 : Int) ≤ t7 ∧ t7 < ((256 : Int) : Int) then
        if ((r1 ((t6.toNat * 256) + t7.toNat)) != 1) = true then
         some (.inr (.inl (false, ([] : List Int))))
        else
         if (0 : Int) ≤ t6 ∧ t6 < ((6 : Int) : Int) then
          if (0 : Int) ≤ t7 ∧ t7 < ((256 : Int) : Int) then
           if ((r1 ((t6.toNat * 256) + t7.toNat)) == 1) = true then
            if okBytes (r4.length + ((List.replicate 1 (0 : Int)).set 0 (IntKind.u8.wrap t7)).length) 1 then
             let f1 : List Int := (r4 ++ ((List.replicate 1 (0 : Int)).set 0 (IntKind.u8.wrap t7)))
             some (.inl (t6, (IntKind.i64.wrap (t7 + 1)), r1, f1, r5))
            else none
           else
            some (.inl (t6, (IntKind.i64.wrap (t7 + 1)), r1, r4, r5))
          else none
         else none
       else none
      else none
     else
      if (0 : Int) ≤ t6 ∧ t6 < ((6 : Int) : Int) then
       if (0 : Int) ≤ t7 ∧ t7 < ((256 : Int) : Int) then
        if ((r1 ((t6.toNat * 256) + t7.toNat)) == 1) = true then
         if okBytes (r4.length + ((List.replicate 1 (0 : Int)).set 0 (IntKind.u8.wrap t7)).length) 1 then
          let f2 : List Int := (r4 ++ ((List.replicate 1 (0 : Int)).set 0 (IntKind.u8.wrap t7)))
          some (.inl (t6, (IntKind.i64.wrap (t7 + 1)), r1, f2, r5))
         else none
        else
         some (.inl (t6, (IntKind.i64.wrap (t7 + 1)), r1, r4, r5))
       else none
      else none
    else none
   else none
  else
   some (.inr (.inr (t6, r1, r4, r5)))

noncomputable def annh6_1 : Ann := .none
abbrev lh6_0 : Lay := ⟨[(1, .ptr 1 0 1536), (4, .full 4), (5, .full 5)], [.env 6 (.c (.int .i64)), .reg 1 (.cells [.ints .i32 1536]), .reg 4 (.row 5 .u8), .reg 5 (.row 5 .u8)], [(1, .env 1 0), (4, .env 4 0), (5, .env 5 0)]⟩
abbrev oh6_0 : List (AExit × Lay) := [(.ret, ⟨[(2, .full 2)], [.env 3 (.c (.bool)), .reg 2 (.row 5 .u8)], [(2, .env 2 0)]⟩), (.exit 0, ⟨[(4, .full 4), (5, .full 5)], [.reg 4 (.row 5 .u8), .reg 5 (.row 5 .u8)], [(4, .env 4 0), (5, .env 5 0)]⟩)]
noncomputable def steph6_0 : Int × (Nat → Int) × List Int × List Int → Option ((Int × (Nat → Int) × List Int × List Int) ⊕ ((Bool × List Int) ⊕ (List Int × List Int)))
  | (t6, r1, r4, r5) =>
  if (decide (t6 < 6)) = true then
   (loopO steph6_1 (t6, 0, r1, r4, r5)).bind fun
    | (.inl (z3, z4)) =>
     some (.inr (.inl (z3, z4)))
    | (.inr (z5, z6, z7, z8)) =>
     if (decide ((z7.length : Int) > 55)) = true then
      some (.inr (.inl (false, ([] : List Int))))
     else
      let f9 : List Int := ((List.replicate 1 (0 : Int)).set 0 (IntKind.u8.wrap (z7.length : Int)))
      if okBytes (z8.length + f9.length) 1 then
       some (.inl ((IntKind.i64.wrap (z5 + 1)), z6, z7, (z8 ++ f9)))
      else none
  else
   some (.inr (.inr (r4, r5)))

noncomputable def annh6_0 : Ann := (.seq .none (.seq (.seq (.seq (.seq .none (.seq (.cut (cutEnt lh6_1 oh6_1 (loopO (steph6_1)))) .none)) .none) .none) .none))
abbrev lh6_2 : Lay := ⟨[(4, .full 4), (5, .full 5)], [.reg 4 (.row 5 .u8), .reg 5 (.row 5 .u8)], [(4, .env 4 0), (5, .env 5 0)]⟩
abbrev oh6_2 : List (AExit × Lay) := [(.exit 4, ⟨[(4, .full 4), (5, .full 5)], [.reg 4 (.row 5 .u8), .reg 5 (.row 5 .u8)], [(4, .env 4 0), (5, .env 5 0)]⟩)]
noncomputable def steph6_2 : List Int × List Int → Option ((List Int × List Int) ⊕ ((List Int × List Int)))
  | (r4, r5) =>
  if (decide ((r4.length : Int) < 55)) = true then
   if okBytes (r4.length + ((List.replicate 1 (0 : Int)).set 0 0).length) 1 then
    some (.inl ((r4 ++ ((List.replicate 1 (0 : Int)).set 0 0)), r5))
   else none
  else
   some (.inr (r4, r5))

noncomputable def annh6_2 : Ann := .none
noncomputable def Fh6 : (Nat → Int) → Option ((List Int × Bool))
  | a0 =>
  (loopO steph6_0 (0, a0, ([] : List Int), ([] : List Int))).bind fun
   | (.inl (z10, z11)) =>
    some (z11, z10)
   | (.inr (z12, z13)) =>
    (loopO steph6_2 (z12, z13)).bind fun (z14, z15) =>
     if okBytes (z14.length + z15.length) 1 then
      some ((z14 ++ z15), true)
     else none

noncomputable def annh6 : Ann := (.seq .none (.seq .none (.seq .none (.seq (.seq .none (.seq (.cut (cutEnt lh6_0 oh6_0 (loopO (steph6_0)))) .none)) (.seq (.seq (.cut (cutEnt lh6_2 oh6_2 (loopO (steph6_2)))) .none) .none)))))
theorem eqh6_1 : ∀ s : lh6_1.T, exec htab (ofL Eh5) 59 (Code.at' [1, 1, 1, 0, 1, 0, 0, 1, 0, 0, 0, 1, 0, 0] bodyh6) annh6_1 (fun e st => loopEnd (l := lh6_1) (outs := oh6_1) e st) (lh6_1.enc s) = steph6_1 s := by
  rintro ⟨t6, t7, r1, r4, r5⟩
  kernel_rfl
theorem okh6_1 : LOk Go.Proofs.Try.prog 59 (cutEnt lh6_1 oh6_1 (loopO steph6_1)) (Code.at' [1, 1, 1, 0, 1, 0, 0, 1, 0, 0, 0, 1, 0] bodyh6) := by
  have e : Code.at' [1, 1, 1, 0, 1, 0, 0, 1, 0, 0, 0, 1, 0] bodyh6 = .loop (Code.at' [1, 1, 1, 0, 1, 0, 0, 1, 0, 0, 0, 1, 0, 0] bodyh6) := by kernel_rfl
  rw [e]
  refine loop_ok ch6 59 rfl rfl (annOk_of_cuts ?_) eqh6_1
  intro x hx
  exact absurd hx (by show x ∉ ([] : List (List Nat × LEnt)); simp)

theorem eqh6_0 : ∀ s : lh6_0.T, exec htab (ofL Eh5) 59 (Code.at' [1, 1, 1, 0, 1, 0, 0] bodyh6) annh6_0 (fun e st => loopEnd (l := lh6_0) (outs := oh6_0) e st) (lh6_0.enc s) = steph6_0 s := by
  rintro ⟨t6, r1, r4, r5⟩
  kernel_rfl
theorem okh6_0 : LOk Go.Proofs.Try.prog 59 (cutEnt lh6_0 oh6_0 (loopO steph6_0)) (Code.at' [1, 1, 1, 0, 1, 0] bodyh6) := by
  have e : Code.at' [1, 1, 1, 0, 1, 0] bodyh6 = .loop (Code.at' [1, 1, 1, 0, 1, 0, 0] bodyh6) := by kernel_rfl
  rw [e]
  refine loop_ok ch6 59 rfl rfl (annOk_of_cuts ?_) eqh6_0
  have hc : Ann.cuts annh6_0 = [([1, 0, 0, 0, 1, 0], (cutEnt lh6_1 oh6_1 (loopO (steph6_1))))] := by kernel_rfl
  rw [hc]
  intro x hx
  simp only [List.mem_cons, List.not_mem_nil, or_false] at hx
  rcases hx with rfl
  · have e : Code.at' [1, 0, 0, 0, 1, 0] (Code.at' [1, 1, 1, 0, 1, 0, 0] bodyh6) = Code.at' [1, 1, 1, 0, 1, 0, 0, 1, 0, 0, 0, 1, 0] bodyh6 := by kernel_rfl
    rw [e]; exact okh6_1

theorem eqh6_2 : ∀ s : lh6_2.T, exec htab (ofL Eh5) 59 (Code.at' [1, 1, 1, 1, 0, 0, 0] bodyh6) annh6_2 (fun e st => loopEnd (l := lh6_2) (outs := oh6_2) e st) (lh6_2.enc s) = steph6_2 s := by
  rintro ⟨r4, r5⟩
  kernel_rfl
theorem okh6_2 : LOk Go.Proofs.Try.prog 59 (cutEnt lh6_2 oh6_2 (loopO steph6_2)) (Code.at' [1, 1, 1, 1, 0, 0] bodyh6) := by
  have e : Code.at' [1, 1, 1, 1, 0, 0] bodyh6 = .loop (Code.at' [1, 1, 1, 1, 0, 0, 0] bodyh6) := by kernel_rfl
  rw [e]
  refine loop_ok ch6 59 rfl rfl (annOk_of_cuts ?_) eqh6_2
  intro x hx
  exact absurd hx (by show x ∉ ([] : List (List Nat × LEnt)); simp)

theorem eqh6 : ∀ x : Sh6.inT, exec htab (ofL Eh5) 59 bodyh6 annh6 (finL htab Sh6) (Sh6.inp.enc x) = Fh6 x := by
  intro x
  kernel_rfl
theorem callsh6 : CallsL Go.Proofs.Try.prog 6 Sh6 Fh6 := by
  refine fun_callsL (fn := Go.Proofs.Try.f6) (c := bodyh6) (ann := annh6) ch6 (by kernel_rfl) (by kernel_rfl) (by kernel_rfl) (by kernel_rfl) (by kernel_rfl) (annOk_of_cuts ?_) eqh6
  have hc : Ann.cuts annh6 = [([1, 1, 1, 0, 1, 0], (cutEnt lh6_0 oh6_0 (loopO (steph6_0)))), ([1, 1, 1, 1, 0, 0], (cutEnt lh6_2 oh6_2 (loopO (steph6_2))))] := by kernel_rfl
  rw [hc]
  intro x hx
  simp only [List.mem_cons, List.not_mem_nil, or_false] at hx
  rcases hx with rfl | rfl
  · have e : Code.at' [1, 1, 1, 0, 1, 0] bodyh6 = Code.at' [1, 1, 1, 0, 1, 0] bodyh6 := by kernel_rfl
    rw [e]; exact okh6_0
  · have e : Code.at' [1, 1, 1, 1, 0, 0] bodyh6 = Code.at' [1, 1, 1, 1, 0, 0] bodyh6 := by kernel_rfl
    rw [e]; exact okh6_2

theorem enth6 : EntOk Go.Proofs.Try.prog 6 (funEntL Sh6 true Fh6) := fun_okL (fn := Go.Proofs.Try.f6) (c := bodyh6) (by kernel_rfl) (by kernel_rfl) (by kernel_rfl) (by kernel_rfl) callsh6
noncomputable def Eh6 : List (Nat × Ent) := (6, (funEntL Sh6 true Fh6)) :: Eh5
theorem Eh6_ok : EntsOk Go.Proofs.Try.prog (ofL Eh6) := .cons enth6 Eh5_ok

/-! ### barbican/pack.FromHints$1 -/
noncomputable def bodyh13 : Code := (Go.Proofs.Try.f13.body).getD .skip
abbrev Sh13 : FL := ⟨⟨[], [.env 0 (.c (.int .u8))], []⟩, 1, [(.ret, ⟨[], [.env 0 (.c (.bool))], []⟩)], [.tmp 2], false⟩
noncomputable def ch13 : Ctx Go.Proofs.Try.prog := ⟨htab, ofL Eh6, htabOk, Eh6_ok, hdep, hord⟩
noncomputable def Fh13 : Int → Option ((Bool))
  | a0 =>
  some (a0 != 0)

noncomputable def annh13 : Ann := .none
theorem eqh13 : ∀ x : Sh13.inT, exec htab (ofL Eh6) 5 bodyh13 annh13 (finL htab Sh13) (Sh13.inp.enc x) = Fh13 x := by
  intro x
  kernel_rfl
theorem callsh13 : CallsL Go.Proofs.Try.prog 13 Sh13 Fh13 := by
  refine fun_callsL (fn := Go.Proofs.Try.f13) (c := bodyh13) (ann := annh13) ch13 (by kernel_rfl) (by kernel_rfl) (by kernel_rfl) (by kernel_rfl) (by kernel_rfl) (annOk_of_cuts ?_) eqh13
  intro x hx
  exact absurd hx (by show x ∉ ([] : List (List Nat × LEnt)); simp)

theorem enth13 : EntOk Go.Proofs.Try.prog 13 (funEntL Sh13 true Fh13) := fun_okL (fn := Go.Proofs.Try.f13) (c := bodyh13) (by kernel_rfl) (by kernel_rfl) (by kernel_rfl) (by kernel_rfl) callsh13
noncomputable def Eh13 : List (Nat × Ent) := (13, (funEntL Sh13 true Fh13)) :: Eh6
theorem Eh13_ok : EntsOk Go.Proofs.Try.prog (ofL Eh13) := .cons enth13 Eh6_ok

/-! ### slices.IndexFunc[[]byte,byte] -/
noncomputable def bodyh16 : Code := (Go.Proofs.Try.f16.body).getD .skip
abbrev Sh16 : FL := ⟨⟨[(1, .clo 13 [])], [.env 0 (.c (.fz (.int .u8)))], []⟩, 2, [(.ret, ⟨[], [.env 0 (.c (.int .i64))], []⟩)], [.tmp 4], false⟩
noncomputable def ch16 : Ctx Go.Proofs.Try.prog := ⟨htab, ofL Eh13, htabOk, Eh13_ok, hdep, hord⟩
abbrev lh16_0 : Lay := ⟨[(1, .clo 13 [])], [.env 0 (.c (.fz (.int .u8))), .env 7 (.c (.int .i64)), .env 8 (.c (.int .i64))], []⟩
abbrev oh16_0 : List (AExit × Lay) := [(.ret, ⟨[], [.env 4 (.c (.int .i64))], []⟩), (.exit 0, ⟨[], [], []⟩)]
noncomputable def steph16_0 : (List Int) × Int × Int → Option (((List Int) × Int × Int) ⊕ ((Int) ⊕ (Unit)))
  | (t0, t7, t8) =>
  if (decide (t8 < t7)) = true then
   if (0 : Int) ≤ t8 ∧ t8 < (t0.length : Int) then
    (Fh13 (t0.getD t8.toNat 0)).bind fun y1 =>
     if y1 = true then
      some (.inr (.inl t8))
     else
      some (.inl (t0, t7, (IntKind.i64.wrap (t8 + 1))))
   else none
  else
   some (.inr (.inr ()))

noncomputable def annh16_0 : Ann := .none
noncomputable def Fh16 : (List Int) → Option ((Int))
  | a0 =>
  (loopO steph16_0 (a0, (a0.length : Int), 0)).bind fun
   | (.inl z2) =>
    some z2
   | (.inr _) =>
    some (-1)

noncomputable def annh16 : Ann := (.seq .none (.seq (.seq .none (.seq (.cut (cutEnt lh16_0 oh16_0 (loopO (steph16_0)))) .none)) .none))
theorem eqh16_0 : ∀ s : lh16_0.T, exec htab (ofL Eh13) 19 (Code.at' [1, 0, 1, 0, 0] bodyh16) annh16_0 (fun e st => loopEnd (l := lh16_0) (outs := oh16_0) e st) (lh16_0.enc s) = steph16_0 s := by
  rintro ⟨t0, t7, t8⟩
  kernel_rfl
theorem okh16_0 : LOk Go.Proofs.Try.prog 19 (cutEnt lh16_0 oh16_0 (loopO steph16_0)) (Code.at' [1, 0, 1, 0] bodyh16) := by
  have e : Code.at' [1, 0, 1, 0] bodyh16 = .loop (Code.at' [1, 0, 1, 0, 0] bodyh16) := by kernel_rfl
  rw [e]
  refine loop_ok ch16 19 rfl rfl (annOk_of_cuts ?_) eqh16_0
  intro x hx
  exact absurd hx (by show x ∉ ([] : List (List Nat × LEnt)); simp)

theorem eqh16 : ∀ x : Sh16.inT, exec htab (ofL Eh13) 19 bodyh16 annh16 (finL htab Sh16) (Sh16.inp.enc x) = Fh16 x := by
  intro x
  kernel_rfl
theorem callsh16 : CallsL Go.Proofs.Try.prog 16 Sh16 Fh16 := by
  refine fun_callsL (fn := Go.Proofs.Try.f16) (c := bodyh16) (ann := annh16) ch16 (by kernel_rfl) (by kernel_rfl) (by kernel_rfl) (by kernel_rfl) (by kernel_rfl) (annOk_of_cuts ?_) eqh16
  have hc : Ann.cuts annh16 = [([1, 0, 1, 0], (cutEnt lh16_0 oh16_0 (loopO (steph16_0))))] := by kernel_rfl
  rw [hc]
  intro x hx
  simp only [List.mem_cons, List.not_mem_nil, or_false] at hx
  rcases hx with rfl
  · have e : Code.at' [1, 0, 1, 0] bodyh16 = Code.at' [1, 0, 1, 0] bodyh16 := by kernel_rfl
    rw [e]; exact okh16_0

theorem enth16 : EntOk Go.Proofs.Try.prog 16 (funEntL Sh16 true Fh16) := fun_okL (fn := Go.Proofs.Try.f16) (c := bodyh16) (by kernel_rfl) (by kernel_rfl) (by kernel_rfl) (by kernel_rfl) callsh16
noncomputable def Eh16 : List (Nat × Ent) := (16, (funEntL Sh16 true Fh16)) :: Eh13
theorem Eh16_ok : EntsOk Go.Proofs.Try.prog (ofL Eh16) := .cons enth16 Eh13_ok

/-! ### slices.ContainsFunc[[]byte,byte] -/
noncomputable def bodyh12 : Code := (Go.Proofs.Try.f12.body).getD .skip
abbrev Sh12 : FL := ⟨⟨[(1, .clo 13 [])], [.env 0 (.c (.fz (.int .u8)))], []⟩, 2, [(.ret, ⟨[], [.env 0 (.c (.bool))], []⟩)], [.tmp 4], false⟩
noncomputable def ch12 : Ctx Go.Proofs.Try.prog := ⟨htab, ofL Eh16, htabOk, Eh16_ok, hdep, hord⟩
noncomputable def Fh12 : (List Int) → Option ((Bool))
  | a0 =>
  (Fh16 a0).bind fun y1 =>
   some (decide (y1 ≥ 0))

noncomputable def annh12 : Ann := .none
theorem eqh12 : ∀ x : Sh12.inT, exec htab (ofL Eh16) 9 bodyh12 annh12 (finL htab Sh12) (Sh12.inp.enc x) = Fh12 x := by
  intro x
  kernel_rfl
theorem callsh12 : CallsL Go.Proofs.Try.prog 12 Sh12 Fh12 := by
  refine fun_callsL (fn := Go.Proofs.Try.f12) (c := bodyh12) (ann := annh12) ch12 (by kernel_rfl) (by kernel_rfl) (by kernel_rfl) (by kernel_rfl) (by kernel_rfl) (annOk_of_cuts ?_) eqh12
  intro x hx
  exact absurd hx (by show x ∉ ([] : List (List Nat × LEnt)); simp)

theorem enth12 : EntOk Go.Proofs.Try.prog 12 (funEntL Sh12 true Fh12) := fun_okL (fn := Go.Proofs.Try.f12) (c := bodyh12) (by kernel_rfl) (by kernel_rfl) (by kernel_rfl) (by kernel_rfl) callsh12
noncomputable def Eh12 : List (Nat × Ent) := (12, (funEntL Sh12 true Fh12)) :: Eh16
theorem Eh12_ok : EntsOk Go.Proofs.Try.prog (ofL Eh12) := .cons enth12 Eh16_ok

/-! ### barbican/pack.FromHints -/
noncomputable def bodyh7 : Code := (Go.Proofs.Try.f7.body).getD .skip
abbrev Sh7 : FL := ⟨⟨[], [.env 0 (.c (.fz (.int .u8)))], []⟩, 1, [(.ret, ⟨[], [.env 0 (.agg [.ints .i32 1536]), .env 1 (.c (.int .i64))], []⟩)], [.cell 2 24, .tmp 3], false⟩
noncomputable def ch7 : Ctx Go.Proofs.Try.prog := ⟨htab, ofL Eh12, htabOk, Eh12_ok, hdep, hord⟩
abbrev lh7_1 : Lay := ⟨[(2, .ptr 2 0 1536), (4, .ptr 4 0 1536)], [.env 0 (.c (.fz (.int .u8))), .env 5 (.c (.int .i64)), .env 6 (.c (.int .i64)), .env 7 (.c (.int .i64)), .env 14 (.c (.int .i64)), .env 34 (.c (.fzn (.int .u8))), .env 35 (.c (.int .i64)), .env 36 (.c (.int .i64)), .reg 2 (.cells [.ints .i32 1536]), .reg 4 (.cells [.ints .i32 1536])], [(2, .env 2 0), (4, .env 4 0)]⟩
abbrev oh7_1 : List (AExit × Lay) := [(.ret, ⟨[(2, .ptr 2 0 1536)], [.env 3 (.c (.int .i64)), .reg 2 (.cells [.ints .i32 1536])], [(2, .env 2 0)]⟩), (.exit 2, ⟨[(2, .ptr 2 0 1536), (4, .ptr 4 0 1536)], [.env 0 (.c (.fz (.int .u8))), .env 7 (.c (.int .i64)), .env 14 (.c (.int .i64)), .reg 2 (.cells [.ints .i32 1536]), .reg 4 (.cells [.ints .i32 1536])], [(2, .env 2 0), (4, .env 4 0)]⟩)]
noncomputable def steph7_1 : (List Int) × Int × Int × Int × Int × (List Int × Nat) × Int × Int × (Nat → Int) × (Nat → Int) → Option (((List Int) × Int × Int × Int × Int × (List Int × Nat) × Int × Int × (Nat → Int) × (Nat → Int)) ⊕ ((Int × (Nat → Int)) ⊕ ((List Int) × Int × Int × (Nat → Int) × (Nat → Int))))
  | (t0, t5, t6, t7, t14, t34, t35, t36, r2, r4) =>
  if (decide (t36 < t35)) = true then
   if (0 : Int) ≤ t36 ∧ t36 < ((t34.2 : Nat) : Int) then
    if (decide (t36 > 0)) = true then
     if (0 : Int) ≤ (IntKind.i64.wrap ((IntKind.i64.wrap (t5 + t36)) - 1)) ∧ (IntKind.i64.wrap ((IntKind.i64.wrap (t5 + t36)) - 1)) < (t0.length : Int) then
      let x2 : Int := (t0.getD (IntKind.i64.wrap ((IntKind.i64.wrap (t5 + t36)) - 1)).toNat 0)
      if (decide ((t34.1.getD t36.toNat 0) ≤ x2)) = true then
       some (.inr (.inl (93, (fun _ => 0))))
      else
       if (0 : Int) ≤ t6 ∧ t6 < ((6 : Int) : Int) then
        if (0 : Int) ≤ (t34.1.getD t36.toNat 0) ∧ (t34.1.getD t36.toNat 0) < ((256 : Int) : Int) then
         let f3 : Nat → Int := (upd r4 ((t6.toNat * 256) + (t34.1.getD t36.toNat 0).toNat) 1)
         some (.inl (t0, t5, t6, t7, t14, (t34.1, t34.2), t35, (IntKind.i64.wrap (t36 + 1)), r2, f3))
        else none
       else none
     else none
    else
     if (0 : Int) ≤ t6 ∧ t6 < ((6 : Int) : Int) then
      if (0 : Int) ≤ (t34.1.getD t36.toNat 0) ∧ (t34.1.getD t36.toNat 0) < ((256 : Int) : Int) then
       let f4 : Nat → Int := (upd r4 ((t6.toNat * 256) + (t34.1.getD t36.toNat 0).toNat) 1)
       some (.inl (t0, t5, t6, t7, t14, (t34.1, t34.2), t35, (IntKind.i64.wrap (t36 + 1)), r2, f4))
      else none
     else none
   else none
  else
   some (.inr (.inr (t0, t7, t14, r2, r4)))

noncomputable def annh7_1 : Ann := .none
abbrev lh7_0 : Lay := ⟨[(2, .ptr 2 0 1536), (4, .ptr 4 0 1536)], [.env 0 (.c (.fz (.int .u8))), .env 5 (.c (.int .i64)), .env 14 (.c (.int .i64)), .reg 2 (.cells [.ints .i32 1536]), .reg 4 (.cells [.ints .i32 1536])], [(2, .env 2 0), (4, .env 4 0)]⟩
abbrev oh7_0 : List (AExit × Lay) := [(.ret, ⟨[(2, .ptr 2 0 1536)], [.env 3 (.c (.int .i64)), .reg 2 (.cells [.ints .i32 1536])], [(2, .env 2 0)]⟩), (.exit 0, ⟨[(2, .ptr 2 0 1536), (4, .ptr 4 0 1536)], [.env 0 (.c (.fz (.int .u8))), .env 5 (.c (.int .i64)), .reg 2 (.cells [.ints .i32 1536]), .reg 4 (.cells [.ints .i32 1536])], [(2, .env 2 0), (4, .env 4 0)]⟩)]
noncomputable def steph7_0 : (List Int) × Int × Int × (Nat → Int) × (Nat → Int) → Option (((List Int) × Int × Int × (Nat → Int) × (Nat → Int)) ⊕ ((Int × (Nat → Int)) ⊕ ((List Int) × Int × (Nat → Int) × (Nat → Int))))
  | (t0, t5, t14, r2, r4) =>
  if (decide (t14 < 6)) = true then
   if (0 : Int) ≤ (IntKind.i64.wrap (55 + t14)) ∧ (IntKind.i64.wrap (55 + t14)) < (t0.length : Int) then
    let x1 : Int := (IntKind.i64.wrap (t0.getD (IntKind.i64.wrap (55 + t14)).toNat 0))
    if (decide (x1 < t5)) = false then
     if (decide (x1 > 55)) = true then
      some (.inr (.inl (93, (fun _ => 0))))
     else
      if (0 : Int) ≤ t5 ∧ t5 ≤ x1 ∧ x1 ≤ (t0.length : Int) then
       (loopO steph7_1 (t0, t5, t14, x1, t14, ((t0.drop t5.toNat), (x1.toNat - t5.toNat)), (((x1.toNat - t5.toNat) : Nat) : Int), 0, r2, r4)).bind fun
        | (.inl (z5, z6)) =>
         some (.inr (.inl (z5, z6)))
        | (.inr (z7, z8, z9, z10, z11)) =>
         some (.inl (z7, z8, (IntKind.i64.wrap (z9 + 1)), z10, z11))
      else none
    else
     some (.inr (.inl (93, (fun _ => 0))))
   else none
  else
   some (.inr (.inr (t0, t5, r2, r4)))

noncomputable def annh7_0 : Ann := (.seq .none (.seq .none (.seq (.seq (.seq .none (.seq .none (.seq .none (.seq (.seq .none (.seq (.cut (cutEnt lh7_1 oh7_1 (loopO (steph7_1)))) .none)) .none)))) .none) .none)))
noncomputable def Fh7 : (List Int) → Option (((Nat → Int) × Int))
  | a0 =>
  if ((a0.length : Int) != 61) = true then
   some ((fun _ => 0), 91)
  else
   (loopO steph7_0 (a0, 0, 0, (fun _ => 0), (fun _ => 0))).bind fun
    | (.inl (z12, z13)) =>
     some (z13, z12)
    | (.inr (z14, z15, z16, z17)) =>
     if (0 : Int) ≤ z15 ∧ z15 ≤ (55 : Int) ∧ (55 : Int) ≤ (z14.length : Int) then
      (Fh12 ((z14.drop z15.toNat).take (55 - z15.toNat))).bind fun y18 =>
       if y18 = true then
        some ((fun _ => 0), 93)
       else
        some (z17, 0)
     else none

noncomputable def annh7 : Ann := (.seq .none (.seq .none (.seq .none (.seq .none (.seq (.seq .none (.seq (.cut (cutEnt lh7_0 oh7_0 (loopO (steph7_0)))) .none)) .none)))))
theorem eqh7_1 : ∀ s : lh7_1.T, exec htab (ofL Eh12) 68 (Code.at' [1, 1, 1, 1, 0, 1, 0, 0, 1, 1, 0, 0, 1, 1, 1, 0, 1, 0, 0] bodyh7) annh7_1 (fun e st => loopEnd (l := lh7_1) (outs := oh7_1) e st) (lh7_1.enc s) = steph7_1 s := by
  rintro ⟨t0, t5, t6, t7, t14, t34, t35, t36, r2, r4⟩
  kernel_rfl
theorem okh7_1 : LOk Go.Proofs.Try.prog 68 (cutEnt lh7_1 oh7_1 (loopO steph7_1)) (Code.at' [1, 1, 1, 1, 0, 1, 0, 0, 1, 1, 0, 0, 1, 1, 1, 0, 1, 0] bodyh7) := by
  have e : Code.at' [1, 1, 1, 1, 0, 1, 0, 0, 1, 1, 0, 0, 1, 1, 1, 0, 1, 0] bodyh7 = .loop (Code.at' [1, 1, 1, 1, 0, 1, 0, 0, 1, 1, 0, 0, 1, 1, 1, 0, 1, 0, 0] bodyh7) := by kernel_rfl
  rw [e]
  refine loop_ok ch7 68 rfl rfl (annOk_of_cuts ?_) eqh7_1
  intro x hx
  exact absurd hx (by show x ∉ ([] : List (List Nat × LEnt)); simp)

theorem eqh7_0 : ∀ s : lh7_0.T, exec htab (ofL Eh12) 68 (Code.at' [1, 1, 1, 1, 0, 1, 0, 0] bodyh7) annh7_0 (fun e st => loopEnd (l := lh7_0) (outs := oh7_0) e st) (lh7_0.enc s) = steph7_0 s := by
  rintro ⟨t0, t5, t14, r2, r4⟩
  kernel_rfl
theorem okh7_0 : LOk Go.Proofs.Try.prog 68 (cutEnt lh7_0 oh7_0 (loopO steph7_0)) (Code.at' [1, 1, 1, 1, 0, 1, 0] bodyh7) := by
  have e : Code.at' [1, 1, 1, 1, 0, 1, 0] bodyh7 = .loop (Code.at' [1, 1, 1, 1, 0, 1, 0, 0] bodyh7) := by kernel_rfl
  rw [e]
  refine loop_ok ch7 68 rfl rfl (annOk_of_cuts ?_) eqh7_0
  have hc : Ann.cuts annh7_0 = [([1, 1, 0, 0, 1, 1, 1, 0, 1, 0], (cutEnt lh7_1 oh7_1 (loopO (steph7_1))))] := by kernel_rfl
  rw [hc]
  intro x hx
  simp only [List.mem_cons, List.not_mem_nil, or_false] at hx
  rcases hx with rfl
  · have e : Code.at' [1, 1, 0, 0, 1, 1, 1, 0, 1, 0] (Code.at' [1, 1, 1, 1, 0, 1, 0, 0] bodyh7) = Code.at' [1, 1, 1, 1, 0, 1, 0, 0, 1, 1, 0, 0, 1, 1, 1, 0, 1, 0] bodyh7 := by kernel_rfl
    rw [e]; exact okh7_1

theorem eqh7 : ∀ x : Sh7.inT, exec htab (ofL Eh12) 68 bodyh7 annh7 (finL htab Sh7) (Sh7.inp.enc x) = Fh7 x := by
  intro x
  kernel_rfl
theorem callsh7 : CallsL Go.Proofs.Try.prog 7 Sh7 Fh7 := by
  refine fun_callsL (fn := Go.Proofs.Try.f7) (c := bodyh7) (ann := annh7) ch7 (by kernel_rfl) (by kernel_rfl) (by kernel_rfl) (by kernel_rfl) (by kernel_rfl) (annOk_of_cuts ?_) eqh7
  have hc : Ann.cuts annh7 = [([1, 1, 1, 1, 0, 1, 0], (cutEnt lh7_0 oh7_0 (loopO (steph7_0))))] := by kernel_rfl
  rw [hc]
  intro x hx
  simp only [List.mem_cons, List.not_mem_nil, or_false] at hx
  rcases hx with rfl
  · have e : Code.at' [1, 1, 1, 1, 0, 1, 0] bodyh7 = Code.at' [1, 1, 1, 1, 0, 1, 0] bodyh7 := by kernel_rfl
    rw [e]; exact okh7_0

theorem enth7 : EntOk Go.Proofs.Try.prog 7 (funEntL Sh7 true Fh7) := fun_okL (fn := Go.Proofs.Try.f7) (c := bodyh7) (by kernel_rfl) (by kernel_rfl) (by kernel_rfl) (by kernel_rfl) callsh7
noncomputable def Eh7 : List (Nat × Ent) := (7, (funEntL Sh7 true Fh7)) :: Eh12
theorem Eh7_ok : EntsOk Go.Proofs.Try.prog (ofL Eh7) := .cons enth7 Eh12_ok

/-! ### barbican/barbicanref09.FromHints -/
noncomputable def bodyh8 : Code := (Go.Proofs.Try.f8.body).getD .skip
abbrev Sh8 : FL := ⟨⟨[], [.env 0 (.c (.fz (.int .u8)))], []⟩, 1, [(.ret, ⟨[], [.env 0 (.agg [.ints .i32 1536]), .env 1 (.c (.int .i64))], []⟩)], [.cell 2 24, .tmp 3], false⟩
noncomputable def ch8 : Ctx Go.Proofs.Try.prog := ⟨htab, ofL Eh7, htabOk, Eh7_ok, hdep, hord⟩
abbrev lh8_1 : Lay := ⟨[(2, .ptr 2 0 1536), (4, .ptr 4 0 1536)], [.env 0 (.c (.fz (.int .u8))), .env 5 (.c (.int .i64)), .env 6 (.c (.int .i64)), .reg 2 (.cells [.ints .i32 1536]), .reg 4 (.cells [.ints .i32 1536])], [(2, .env 2 0), (4, .env 4 0)]⟩
abbrev oh8_1 : List (AExit × Lay) := [(.exit 2, ⟨[(2, .ptr 2 0 1536), (4, .ptr 4 0 1536)], [.env 0 (.c (.fz (.int .u8))), .env 5 (.c (.int .i64)), .env 6 (.c (.int .i64)), .reg 2 (.cells [.ints .i32 1536]), .reg 4 (.cells [.ints .i32 1536])], [(2, .env 2 0), (4, .env 4 0)]⟩)]
noncomputable def steph8_1 : (List Int) × Int × Int × (Nat → Int) × (Nat → Int) → Option (((List Int) × Int × Int × (Nat → Int) × (Nat → Int)) ⊕ (((List Int) × Int × Int × (Nat → Int) × (Nat → Int))))
  | (t0, t5, t6, r2, r4) =>
  if (0 : Int) ≤ (IntKind.i64.wrap (55 + t6)) ∧ (IntKind.i64.wrap (55 + t6)) < (t0.length : Int) then
   let x1 : Int := (IntKind.i64.wrap (t0.getD (IntKind.i64.wrap (55 + t6)).toNat 0))
   if (decide (t5 < x1)) = true then
    if (decide (t5 < 55)) = true then
     if (0 : Int) ≤ t5 ∧ t5 < (t0.length : Int) then
      if (0 : Int) ≤ t6 ∧ t6 < ((6 : Int) : Int) then
       if (0 : Int) ≤ (t0.getD t5.toNat 0) ∧ (t0.getD t5.toNat 0) < ((256 : Int) : Int) then
        some (.inl (t0, (IntKind.i64.wrap (t5 + 1)), t6, r2, (upd r4 ((t6.toNat * 256) + (t0.getD t5.toNat 0).toNat) 1)))
       else none
      else none
     else none
    else
     some (.inr (t0, t5, t6, r2, r4))
   else
    some (.inr (t0, t5, t6, r2, r4))
  else none

noncomputable def annh8_1 : Ann := .none
abbrev lh8_0 : Lay := ⟨[(2, .ptr 2 0 1536), (4, .ptr 4 0 1536)], [.env 0 (.c (.fz (.int .u8))), .env 5 (.c (.int .i64)), .env 6 (.c (.int .i64)), .reg 2 (.cells [.ints .i32 1536]), .reg 4 (.cells [.ints .i32 1536])], [(2, .env 2 0), (4, .env 4 0)]⟩
abbrev oh8_0 : List (AExit × Lay) := [(.exit 0, ⟨[(2, .ptr 2 0 1536), (4, .ptr 4 0 1536)], [.env 0 (.c (.fz (.int .u8))), .reg 2 (.cells [.ints .i32 1536]), .reg 4 (.cells [.ints .i32 1536])], [(2, .env 2 0), (4, .env 4 0)]⟩)]
noncomputable def steph8_0 : (List Int) × Int × Int × (Nat → Int) × (Nat → Int) → Option (((List Int) × Int × Int × (Nat → Int) × (Nat → Int)) ⊕ (((List Int) × (Nat → Int) × (Nat → Int))))
  | (t0, t5, t6, r2, r4) =>
  if (decide (t6 < 6)) = true then
   (loopO steph8_1 (t0, t5, t6, r2, r4)).bind fun (z2, z3, z4, z5, z6) =>
    some (.inl (z2, z3, (IntKind.i64.wrap (z4 + 1)), z5, z6))
  else
   some (.inr (t0, r2, r4))

noncomputable def annh8_0 : Ann := (.seq .none (.seq (.seq (.seq (.cut (cutEnt lh8_1 oh8_1 (loopO (steph8_1)))) .none) .none) .none))
abbrev lh8_2 : Lay := ⟨[(2, .ptr 2 0 1536), (4, .ptr 4 0 1536), (7, .full 1041)], [.env 0 (.c (.fz (.int .u8))), .env 8 (.c (.bool)), .env 9 (.c (.int .i64)), .reg 2 (.cells [.ints .i32 1536]), .reg 4 (.cells [.ints .i32 1536]), .reg 1041 (.row 5 .u8)], [(2, .env 2 0), (4, .env 4 0), (1041, .env 7 0)]⟩
abbrev oh8_2 : List (AExit × Lay) := [(.exit 4, ⟨[(2, .ptr 2 0 1536), (4, .ptr 4 0 1536)], [.env 8 (.c (.bool)), .reg 2 (.cells [.ints .i32 1536]), .reg 4 (.cells [.ints .i32 1536])], [(2, .env 2 0), (4, .env 4 0)]⟩)]
noncomputable def steph8_2 : (List Int) × Bool × Int × (Nat → Int) × (Nat → Int) × List Int → Option (((List Int) × Bool × Int × (Nat → Int) × (Nat → Int) × List Int) ⊕ ((Bool × (Nat → Int) × (Nat → Int))))
  | (t0, t8, t9, r2, r4, r1041) =>
  if (decide (t9 < 61)) = true then
   if t8 = true then
    if (0 : Int) ≤ t9 ∧ t9 < (r1041.length : Int) then
     if (0 : Int) ≤ t9 ∧ t9 < (t0.length : Int) then
      some (.inl (t0, ((r1041.getD t9.toNat 0) == (t0.getD t9.toNat 0)), (IntKind.i64.wrap (t9 + 1)), r2, r4, r1041))
     else none
    else none
   else
    some (.inr (t8, r2, r4))
  else
   some (.inr (t8, r2, r4))

noncomputable def annh8_2 : Ann := .none
noncomputable def Fh8 : (List Int) → Option (((Nat → Int) × Int))
  | a0 =>
  if ((a0.length : Int) != 61) = true then
   some ((fun _ => 0), 91)
  else
   (loopO steph8_0 (a0, 0, 0, (fun _ => 0), (fun _ => 0))).bind fun (z7, z8, z9) =>
    (Fh6 z9).bind fun (y10, y11) =>
     (loopO steph8_2 (z7, y11, 0, z8, z9, y10)).bind fun (z12, z13, z14) =>
      if (!z12) = true then
       some ((fun _ => 0), 93)
      else
       some (z14, 0)

noncomputable def annh8 : Ann := (.seq .none (.seq .none (.seq .none (.seq .none (.seq (.seq .none (.seq (.cut (cutEnt lh8_0 oh8_0 (loopO (steph8_0)))) .none)) (.seq .none (.seq (.seq .none (.seq (.cut (cutEnt lh8_2 oh8_2 (loopO (steph8_2)))) .none)) .none)))))))
theorem eqh8_1 : ∀ s : lh8_1.T, exec htab (ofL Eh7) 64 (Code.at' [1, 1, 1, 1, 0, 1, 0, 0, 1, 0, 0, 0, 0] bodyh8) annh8_1 (fun e st => loopEnd (l := lh8_1) (outs := oh8_1) e st) (lh8_1.enc s) = steph8_1 s := by
  rintro ⟨t0, t5, t6, r2, r4⟩
  kernel_rfl
theorem okh8_1 : LOk Go.Proofs.Try.prog 64 (cutEnt lh8_1 oh8_1 (loopO steph8_1)) (Code.at' [1, 1, 1, 1, 0, 1, 0, 0, 1, 0, 0, 0] bodyh8) := by
  have e : Code.at' [1, 1, 1, 1, 0, 1, 0, 0, 1, 0, 0, 0] bodyh8 = .loop (Code.at' [1, 1, 1, 1, 0, 1, 0, 0, 1, 0, 0, 0, 0] bodyh8) := by kernel_rfl
  rw [e]
  refine loop_ok ch8 64 rfl rfl (annOk_of_cuts ?_) eqh8_1
  intro x hx
  exact absurd hx (by show x ∉ ([] : List (List Nat × LEnt)); simp)

theorem eqh8_0 : ∀ s : lh8_0.T, exec htab (ofL Eh7) 64 (Code.at' [1, 1, 1, 1, 0, 1, 0, 0] bodyh8) annh8_0 (fun e st => loopEnd (l := lh8_0) (outs := oh8_0) e st) (lh8_0.enc s) = steph8_0 s := by
  rintro ⟨t0, t5, t6, r2, r4⟩
  kernel_rfl
theorem okh8_0 : LOk Go.Proofs.Try.prog 64 (cutEnt lh8_0 oh8_0 (loopO steph8_0)) (Code.at' [1, 1, 1, 1, 0, 1, 0] bodyh8) := by
  have e : Code.at' [1, 1, 1, 1, 0, 1, 0] bodyh8 = .loop (Code.at' [1, 1, 1, 1, 0, 1, 0, 0] bodyh8) := by kernel_rfl
  rw [e]
  refine loop_ok ch8 64 rfl rfl (annOk_of_cuts ?_) eqh8_0
  have hc : Ann.cuts annh8_0 = [([1, 0, 0, 0], (cutEnt lh8_1 oh8_1 (loopO (steph8_1))))] := by kernel_rfl
  rw [hc]
  intro x hx
  simp only [List.mem_cons, List.not_mem_nil, or_false] at hx
  rcases hx with rfl
  · have e : Code.at' [1, 0, 0, 0] (Code.at' [1, 1, 1, 1, 0, 1, 0, 0] bodyh8) = Code.at' [1, 1, 1, 1, 0, 1, 0, 0, 1, 0, 0, 0] bodyh8 := by kernel_rfl
    rw [e]; exact okh8_1

theorem eqh8_2 : ∀ s : lh8_2.T, exec htab (ofL Eh7) 64 (Code.at' [1, 1, 1, 1, 1, 1, 0, 1, 0, 0] bodyh8) annh8_2 (fun e st => loopEnd (l := lh8_2) (outs := oh8_2) e st) (lh8_2.enc s) = steph8_2 s := by
  rintro ⟨t0, t8, t9, r2, r4, r1041⟩
  kernel_rfl
theorem okh8_2 : LOk Go.Proofs.Try.prog 64 (cutEnt lh8_2 oh8_2 (loopO steph8_2)) (Code.at' [1, 1, 1, 1, 1, 1, 0, 1, 0] bodyh8) := by
  have e : Code.at' [1, 1, 1, 1, 1, 1, 0, 1, 0] bodyh8 = .loop (Code.at' [1, 1, 1, 1, 1, 1, 0, 1, 0, 0] bodyh8) := by kernel_rfl
  rw [e]
  refine loop_ok ch8 64 rfl rfl (annOk_of_cuts ?_) eqh8_2
  intro x hx
  exact absurd hx (by show x ∉ ([] : List (List Nat × LEnt)); simp)

theorem eqh8 : ∀ x : Sh8.inT, exec htab (ofL Eh7) 64 bodyh8 annh8 (finL htab Sh8) (Sh8.inp.enc x) = Fh8 x := by
  intro x
  kernel_rfl
theorem callsh8 : CallsL Go.Proofs.Try.prog 8 Sh8 Fh8 := by
  refine fun_callsL (fn := Go.Proofs.Try.f8) (c := bodyh8) (ann := annh8) ch8 (by kernel_rfl) (by kernel_rfl) (by kernel_rfl) (by kernel_rfl) (by kernel_rfl) (annOk_of_cuts ?_) eqh8
  have hc : Ann.cuts annh8 = [([1, 1, 1, 1, 0, 1, 0], (cutEnt lh8_0 oh8_0 (loopO (steph8_0)))), ([1, 1, 1, 1, 1, 1, 0, 1, 0], (cutEnt lh8_2 oh8_2 (loopO (steph8_2))))] := by kernel_rfl
  rw [hc]
  intro x hx
  simp only [List.mem_cons, List.not_mem_nil, or_false] at hx
  rcases hx with rfl | rfl
  · have e : Code.at' [1, 1, 1, 1, 0, 1, 0] bodyh8 = Code.at' [1, 1, 1, 1, 0, 1, 0] bodyh8 := by kernel_rfl
    rw [e]; exact okh8_0
  · have e : Code.at' [1, 1, 1, 1, 1, 1, 0, 1, 0] bodyh8 = Code.at' [1, 1, 1, 1, 1, 1, 0, 1, 0] bodyh8 := by kernel_rfl
    rw [e]; exact okh8_2

theorem enth8 : EntOk Go.Proofs.Try.prog 8 (funEntL Sh8 true Fh8) := fun_okL (fn := Go.Proofs.Try.f8) (c := bodyh8) (by kernel_rfl) (by kernel_rfl) (by kernel_rfl) (by kernel_rfl) callsh8
noncomputable def Eh8 : List (Nat × Ent) := (8, (funEntL Sh8 true Fh8)) :: Eh7
theorem Eh8_ok : EntsOk Go.Proofs.Try.prog (ofL Eh8) := .cons enth8 Eh7_ok

/-! ### barbican/barbicanref02.Same -/
noncomputable def bodyh9 : Code := (Go.Proofs.Try.f9.body).getD .skip
abbrev Sh9 : FL := ⟨⟨[], [.env 0 (.c (.fz (.int .u8))), .env 1 (.c (.fz (.int .u8)))], []⟩, 2, [(.ret, ⟨[], [.env 0 (.c (.bool))], []⟩)], [.tmp 4], false⟩
noncomputable def ch9 : Ctx Go.Proofs.Try.prog := ⟨htab, ofL Eh8, htabOk, Eh8_ok, hdep, hord⟩
abbrev lh9_0 : Lay := ⟨[], [.env 0 (.c (.fz (.int .u8))), .env 1 (.c (.fz (.int .u8))), .env 5 (.c (.int .i64))], []⟩
abbrev oh9_0 : List (AExit × Lay) := [(.ret, ⟨[], [.env 4 (.c (.bool))], []⟩), (.exit 0, ⟨[], [], []⟩)]
noncomputable def steph9_0 : (List Int) × (List Int) × Int → Option (((List Int) × (List Int) × Int) ⊕ ((Bool) ⊕ (Unit)))
  | (t0, t1, t5) =>
  if (decide (t5 < (t0.length : Int))) = true then
   if (0 : Int) ≤ t5 ∧ t5 < (t0.length : Int) then
    if (0 : Int) ≤ t5 ∧ t5 < (t1.length : Int) then
     if ((t0.getD t5.toNat 0) != (t1.getD t5.toNat 0)) = true then
      some (.inr (.inl false))
     else
      some (.inl (t0, t1, (IntKind.i64.wrap (t5 + 1))))
    else none
   else none
  else
   some (.inr (.inr ()))

noncomputable def annh9_0 : Ann := .none
noncomputable def Fh9 : (List Int) × (List Int) → Option ((Bool))
  | (a0, a1) =>
  if ((a0.length : Int) != (a1.length : Int)) = true then
   some false
  else
   (loopO steph9_0 (a0, a1, 0)).bind fun
    | (.inl z1) =>
     some z1
    | (.inr _) =>
     some true

noncomputable def annh9 : Ann := (.seq .none (.seq .none (.seq (.seq .none (.seq (.cut (cutEnt lh9_0 oh9_0 (loopO (steph9_0)))) .none)) .none)))
theorem eqh9_0 : ∀ s : lh9_0.T, exec htab (ofL Eh8) 26 (Code.at' [1, 1, 0, 1, 0, 0] bodyh9) annh9_0 (fun e st => loopEnd (l := lh9_0) (outs := oh9_0) e st) (lh9_0.enc s) = steph9_0 s := by
  rintro ⟨t0, t1, t5⟩
  kernel_rfl
theorem okh9_0 : LOk Go.Proofs.Try.prog 26 (cutEnt lh9_0 oh9_0 (loopO steph9_0)) (Code.at' [1, 1, 0, 1, 0] bodyh9) := by
  have e : Code.at' [1, 1, 0, 1, 0] bodyh9 = .loop (Code.at' [1, 1, 0, 1, 0, 0] bodyh9) := by kernel_rfl
  rw [e]
  refine loop_ok ch9 26 rfl rfl (annOk_of_cuts ?_) eqh9_0
  intro x hx
  exact absurd hx (by show x ∉ ([] : List (List Nat × LEnt)); simp)

theorem eqh9 : ∀ x : Sh9.inT, exec htab (ofL Eh8) 26 bodyh9 annh9 (finL htab Sh9) (Sh9.inp.enc x) = Fh9 x := by
  rintro ⟨a0, a1⟩
  kernel_rfl
theorem callsh9 : CallsL Go.Proofs.Try.prog 9 Sh9 Fh9 := by
  refine fun_callsL (fn := Go.Proofs.Try.f9) (c := bodyh9) (ann := annh9) ch9 (by kernel_rfl) (by kernel_rfl) (by kernel_rfl) (by kernel_rfl) (by kernel_rfl) (annOk_of_cuts ?_) eqh9
  have hc : Ann.cuts annh9 = [([1, 1, 0, 1, 0], (cutEnt lh9_0 oh9_0 (loopO (steph9_0))))] := by kernel_rfl
  rw [hc]
  intro x hx
  simp only [List.mem_cons, List.not_mem_nil, or_false] at hx
  rcases hx with rfl
  · have e : Code.at' [1, 1, 0, 1, 0] bodyh9 = Code.at' [1, 1, 0, 1, 0] bodyh9 := by kernel_rfl
    rw [e]; exact okh9_0

theorem enth9 : EntOk Go.Proofs.Try.prog 9 (funEntL Sh9 true Fh9) := fun_okL (fn := Go.Proofs.Try.f9) (c := bodyh9) (by kernel_rfl) (by kernel_rfl) (by kernel_rfl) (by kernel_rfl) callsh9
noncomputable def Eh9 : List (Nat × Ent) := (9, (funEntL Sh9 true Fh9)) :: Eh8
theorem Eh9_ok : EntsOk Go.Proofs.Try.prog (ofL Eh9) := .cons enth9 Eh8_ok

/-! ### barbican/barbicanlaw09.PackHints -/
noncomputable def bodyh3 : Code := (Go.Proofs.Try.f3.body).getD .skip
abbrev Sh3 : FL := ⟨⟨[], [.env 0 (.agg [.ints .i32 1536]), .env 1 (.c (.fz (.int .u8)))], []⟩, 2, [(.ret, ⟨[], [.env 0 (.c (.bool))], []⟩)], [.tmp 4], false⟩
noncomputable def ch3 : Ctx Go.Proofs.Try.prog := ⟨htab, ofL Eh9, htabOk, Eh9_ok, hdep, hord⟩
noncomputable def Fh3 : (Nat → Int) × (List Int) → Option ((Bool))
  | (a0, a1) =>
  (Fh4 ()).bind fun y1 =>
   (Fh5 a0).bind fun (y2, y3) =>
    (Fh6 a0).bind fun (y4, y5) =>
     (Fh7 a1).bind fun (y6, y7) =>
      (Fh8 a1).bind fun (y8, y9) =>
       (Fh9 (y2, y4)).bind fun y10 =>
        if (!y1) = false then
         if (!y10) = false then
          if (!(y5 == (y3 == 0))) = false then
           if (!y5) = true then
            if (y3 != 93) = false then
             if (!(arrEq 1536 y6 y8)) = false then
              if (y7 != y9) = true then
               some false
              else
               if y5 = true then
                (Fh7 y2).bind fun (y11, y12) =>
                 if (y12 != 0) = false then
                  if (!(arrEq 1536 y11 a0)) = true then
                   some false
                  else
                   if (y9 != 0) = true then
                    some true
                   else
                    (Fh5 y6).bind fun (y13, y14) =>
                     if (y14 == 0) = true then
                      (Fh9 (y13, a1)).bind fun y15 =>
                       some y15
                     else
                      some false
                 else
                  some false
               else
                if (y9 != 0) = true then
                 some true
                else
                 (Fh5 y6).bind fun (y16, y17) =>
                  if (y17 == 0) = true then
                   (Fh9 (y16, a1)).bind fun y18 =>
                    some y18
                  else
                   some false
             else
              some false
            else
             some false
           else
            if (!(arrEq 1536 y6 y8)) = false then
             if (y7 != y9) = true then
              some false
             else
              if y5 = true then
               (Fh7 y2).bind fun (y19, y20) =>
                if (y20 != 0) = false then
                 if (!(arrEq 1536 y19 a0)) = true then
                  some false
                 else
                  if (y9 != 0) = true then
                   some true
                  else
                   (Fh5 y6).bind fun (y21, y22) =>
                    if (y22 == 0) = true then
                     (Fh9 (y21, a1)).bind fun y23 =>
                      some y23
                    else
                     some false
                else
                 some false
              else
               if (y9 != 0) = true then
                some true
               else
                (Fh5 y6).bind fun (y24, y25) =>
                 if (y25 == 0) = true then
                  (Fh9 (y24, a1)).bind fun y26 =>
                   some y26
                 else
                  some false
            else
             some false
          else
           some false
         else
          some false
        else
         some false

noncomputable def annh3 : Ann := .none
theorem eqh3 : ∀ x : Sh3.inT, exec htab (ofL Eh9) 100 bodyh3 annh3 (finL htab Sh3) (Sh3.inp.enc x) = Fh3 x := by
  rintro ⟨a0, a1⟩
  kernel_rfl
theorem callsh3 : CallsL Go.Proofs.Try.prog 3 Sh3 Fh3 := by
  refine fun_callsL (fn := Go.Proofs.Try.f3) (c := bodyh3) (ann := annh3) ch3 (by kernel_rfl) (by kernel_rfl) (by kernel_rfl) (by kernel_rfl) (by kernel_rfl) (annOk_of_cuts ?_) eqh3
  intro x hx
  exact absurd hx (by show x ∉ ([] : List (List Nat × LEnt)); simp)

theorem enth3 : EntOk Go.Proofs.Try.prog 3 (funEntL Sh3 true Fh3) := fun_okL (fn := Go.Proofs.Try.f3) (c := bodyh3) (by kernel_rfl) (by kernel_rfl) (by kernel_rfl) (by kernel_rfl) callsh3
noncomputable def Eh3 : List (Nat × Ent) := (3, (funEntL Sh3 true Fh3)) :: Eh9
theorem Eh3_ok : EntsOk Go.Proofs.Try.prog (ofL Eh3) := .cons enth3 Eh9_ok
end Go.Abs
