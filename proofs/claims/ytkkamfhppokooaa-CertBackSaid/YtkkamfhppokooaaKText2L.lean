import Derived.Test.YtkkamfhppokooaaKText1L
import Derived.Test.YtkkamfhppokooaaAbsDef4L
import Derived.Test.YtkkamfhppokooaaChecked
import Derived.KernelRfl
set_option linter.unusedVariables false
set_option linter.unusedSimpArgs false
set_option maxRecDepth 100000
open Go.Proofs
namespace Go.Abs
/-! ### barbican/cert.must[[]byte] -/
noncomputable def bodyc76 : Code := (Try.f76.body).getD .skip
abbrev Sc76 : FL := ⟨⟨[(0, .full 1000000)], [.reg 1000000 (.row 5 .u8), .env 1 (.c (.int .i64))], [(1000000, .env 0 0)]⟩, 2, [(.panic 75 0, ⟨[], [], []⟩), (.ret, ⟨[(0, .full 1000000)], [.reg 1000000 (.row 5 .u8)], []⟩)], [.tmp 4], true⟩
noncomputable def cc76 : Ctx Try.prog := ⟨ctab, ofL Ec53, ctabOk, Ec53_ok, cdep, cord⟩
noncomputable def Fc76 : List Int × Int → Option ((Int × (Unit)) ⊕ (List Int))
  | (a0, a1) =>
  (Fc71 (a1 == 0)).bind fun
   | (.inl (e1, _)) =>
    some (.inl (e1, ()))
   | (.inr _) =>
    some (.inr a0)

noncomputable def annc76 : Ann := .none
theorem eqc76 : ∀ x : Sc76.inT, exec ctab (ofL Ec53) 9 bodyc76 annc76 (finL ctab Sc76) (Sc76.inp.enc x) = Fc76 x := by
  rintro ⟨a0, a1⟩
  kernel_rfl
theorem callsc76 : CallsL Try.prog 76 Sc76 Fc76 := by
  refine fun_callsL (fn := Try.f76) (c := bodyc76) (ann := annc76) cc76 (by kernel_rfl) (by kernel_rfl) (by kernel_rfl) (by kernel_rfl) (by kernel_rfl) (annOk_of_cuts ?_) eqc76
  intro x hx
  exact absurd hx (by show x ∉ ([] : List (List Nat × LEnt)); simp)

theorem entc76 : EntOk Try.prog 76 (funEntL Sc76 true Fc76) := fun_okL (fn := Try.f76) (c := bodyc76) (by kernel_rfl) (by kernel_rfl) (by kernel_rfl) (by kernel_rfl) callsc76
noncomputable def Ec76 : List (Nat × Ent) := (76, (funEntL Sc76 true Fc76)) :: Ec53
theorem Ec76_ok : EntsOk Try.prog (ofL Ec76) := .cons entc76 Ec53_ok

/-! ### barbican/der.OID -/
noncomputable def bodyc102 : Code := (Try.f102.body).getD .skip
abbrev Sc102 : FL := ⟨⟨[], [.env 0 (.dat .item)], []⟩, 1, [(.ret, ⟨[(0, .full 3)], [.reg 3 (.row 23 .u64), .env 1 (.c (.int .i64))], [(3, .env 0 0)]⟩)], [.tmp 2, .tmp 3], false⟩
noncomputable def cc102 : Ctx Try.prog := ⟨ctab, ofL Ec76, ctabOk, Ec76_ok, cdep, cord⟩
abbrev lc102_0 : Lay := ⟨[(5, .full 5)], [.env 6 (.c (.int .u64)), .env 7 (.c (.bool)), .env 16 (.c (.fz (.int .u8))), .env 17 (.c (.int .i64)), .env 18 (.c (.int .i64)), .reg 5 (.row 23 .u64)], [(5, .env 5 0)]⟩
abbrev oc102_0 : List (AExit × Lay) := [(.ret, ⟨[(2, .full 2)], [.env 3 (.c (.int .i64)), .reg 2 (.row 23 .u64)], [(2, .env 2 0)]⟩), (.exit 0, ⟨[(5, .full 5)], [.env 7 (.c (.bool)), .reg 5 (.row 23 .u64)], [(5, .env 5 0)]⟩)]
noncomputable def stepc102_0 : Int × Bool × (List Int) × Int × Int × List Int → Option ((Int × Bool × (List Int) × Int × Int × List Int) ⊕ ((Int × List Int) ⊕ (Bool × List Int)))
  | (t6, t7, t16, t17, t18, r5) =>
  if (decide (t18 < t17)) = true then
   if (0 : Int) ≤ t18 ∧ t18 < (t16.length : Int) then
    if t7 = true then
     if ((t16.getD t18.toNat 0) == 128) = true then
      some (.inr (.inl (127, ([] : List Int))))
     else
      let x2 : Int := (bitsOr .u64 (shlI .u64 t6 7) (IntKind.u64.wrap (bitsAnd .u8 (t16.getD t18.toNat 0) 127)))
      if (decide (x2 > 4294967295)) = true then
       some (.inr (.inl (127, ([] : List Int))))
      else
       if (!(decide ((t16.getD t18.toNat 0) < 128))) = true then
        some (.inl (x2, (decide ((t16.getD t18.toNat 0) < 128)), t16, t17, (IntKind.i64.wrap (t18 + 1)), r5))
       else
        if ((r5.length : Int) == 0) = true then
         let x3 : Int := (if 2 < (IntKind.u64.wrap (x2.tdiv 40)) then 2 else (IntKind.u64.wrap (x2.tdiv 40)))
         if okBytes (r5.length + ((List.replicate 1 (0 : Int)).set 0 x3).length) 8 then
          let f4 : List Int := ((List.replicate 1 (0 : Int)).set 0 (IntKind.u64.wrap (x2 - (IntKind.u64.wrap (40 * x3)))))
          if okBytes ((r5 ++ ((List.replicate 1 (0 : Int)).set 0 x3)).length + f4.length) 8 then
           some (.inl (0, (decide ((t16.getD t18.toNat 0) < 128)), t16, t17, (IntKind.i64.wrap (t18 + 1)), ((r5 ++ ((List.replicate 1 (0 : Int)).set 0 x3)) ++ f4)))
          else none
         else none
        else
         if okBytes (r5.length + ((List.replicate 1 (0 : Int)).set 0 x2).length) 8 then
          some (.inl (0, (decide ((t16.getD t18.toNat 0) < 128)), t16, t17, (IntKind.i64.wrap (t18 + 1)), (r5 ++ ((List.replicate 1 (0 : Int)).set 0 x2))))
         else none
    else
     let x5 : Int := (bitsOr .u64 (shlI .u64 t6 7) (IntKind.u64.wrap (bitsAnd .u8 (t16.getD t18.toNat 0) 127)))
     if (decide (x5 > 4294967295)) = true then
      some (.inr (.inl (127, ([] : List Int))))
     else
      if (!(decide ((t16.getD t18.toNat 0) < 128))) = true then
       some (.inl (x5, (decide ((t16.getD t18.toNat 0) < 128)), t16, t17, (IntKind.i64.wrap (t18 + 1)), r5))
      else
       if ((r5.length : Int) == 0) = true then
        let x6 : Int := (if 2 < (IntKind.u64.wrap (x5.tdiv 40)) then 2 else (IntKind.u64.wrap (x5.tdiv 40)))
        if okBytes (r5.length + ((List.replicate 1 (0 : Int)).set 0 x6).length) 8 then
         let f7 : List Int := ((List.replicate 1 (0 : Int)).set 0 (IntKind.u64.wrap (x5 - (IntKind.u64.wrap (40 * x6)))))
         if okBytes ((r5 ++ ((List.replicate 1 (0 : Int)).set 0 x6)).length + f7.length) 8 then
          some (.inl (0, (decide ((t16.getD t18.toNat 0) < 128)), t16, t17, (IntKind.i64.wrap (t18 + 1)), ((r5 ++ ((List.replicate 1 (0 : Int)).set 0 x6)) ++ f7)))
         else none
        else none
       else
        if okBytes (r5.length + ((List.replicate 1 (0 : Int)).set 0 x5).length) 8 then
         some (.inl (0, (decide ((t16.getD t18.toNat 0) < 128)), t16, t17, (IntKind.i64.wrap (t18 + 1)), (r5 ++ ((List.replicate 1 (0 : Int)).set 0 x5))))
        else none
   else none
  else
   some (.inr (.inr (t7, r5)))

noncomputable def annc102_0 : Ann := .none
noncomputable def Fc102 : Tree → Option ((List Int × Int))
  | a0 =>
  (Fc88 ((Tree.node a0.tag a0.body a0.kids), 6)).bind fun y1 =>
   if (y1 != 0) = true then
    some (([] : List Int), y1)
   else
    (loopO stepc102_0 (0, true, a0.body, (a0.body.length : Int), 0, ([] : List Int))).bind fun
     | (.inl (z8, z9)) =>
      some (z9, z8)
     | (.inr (z10, z11)) =>
      if (!z10) = false then
       if (decide ((z11.length : Int) > 20)) = true then
        some (([] : List Int), 127)
       else
        some (z11, 0)
      else
       some (([] : List Int), 127)

noncomputable def annc102 : Ann := (.seq .none (.seq .none (.seq .none (.seq .none (.seq .none (.seq (.seq .none (.seq (.cut (cutEnt lc102_0 oc102_0 (loopO (stepc102_0)))) .none)) .none))))))
theorem eqc102_0 : ∀ s : lc102_0.T, exec ctab (ofL Ec76) 66 (Code.at' [1, 1, 1, 1, 1, 0, 1, 0, 0] bodyc102) annc102_0 (fun e st => loopEnd (l := lc102_0) (outs := oc102_0) e st) (lc102_0.enc s) = stepc102_0 s := by
  rintro ⟨t6, t7, t16, t17, t18, r5⟩
  kernel_rfl
theorem okc102_0 : LOk Try.prog 66 (cutEnt lc102_0 oc102_0 (loopO stepc102_0)) (Code.at' [1, 1, 1, 1, 1, 0, 1, 0] bodyc102) := by
  have e : Code.at' [1, 1, 1, 1, 1, 0, 1, 0] bodyc102 = .loop (Code.at' [1, 1, 1, 1, 1, 0, 1, 0, 0] bodyc102) := by kernel_rfl
  rw [e]
  refine loop_ok cc102 66 rfl rfl (annOk_of_cuts ?_) eqc102_0
  intro x hx
  exact absurd hx (by show x ∉ ([] : List (List Nat × LEnt)); simp)

theorem eqc102 : ∀ x : Sc102.inT, exec ctab (ofL Ec76) 66 bodyc102 annc102 (finL ctab Sc102) (Sc102.inp.enc x) = Fc102 x := by
  intro x
  kernel_rfl
theorem callsc102 : CallsL Try.prog 102 Sc102 Fc102 := by
  refine fun_callsL (fn := Try.f102) (c := bodyc102) (ann := annc102) cc102 (by kernel_rfl) (by kernel_rfl) (by kernel_rfl) (by kernel_rfl) (by kernel_rfl) (annOk_of_cuts ?_) eqc102
  have hc : Ann.cuts annc102 = [([1, 1, 1, 1, 1, 0, 1, 0], (cutEnt lc102_0 oc102_0 (loopO (stepc102_0))))] := by kernel_rfl
  rw [hc]
  intro x hx
  simp only [List.mem_cons, List.not_mem_nil, or_false] at hx
  rcases hx with rfl
  · have e : Code.at' [1, 1, 1, 1, 1, 0, 1, 0] bodyc102 = Code.at' [1, 1, 1, 1, 1, 0, 1, 0] bodyc102 := by kernel_rfl
    rw [e]; exact okc102_0

theorem entc102 : EntOk Try.prog 102 (funEntL Sc102 true Fc102) := fun_okL (fn := Try.f102) (c := bodyc102) (by kernel_rfl) (by kernel_rfl) (by kernel_rfl) (by kernel_rfl) callsc102
noncomputable def Ec102 : List (Nat × Ent) := (102, (funEntL Sc102 true Fc102)) :: Ec76
theorem Ec102_ok : EntsOk Try.prog (ofL Ec102) := .cons entc102 Ec76_ok

/-! ### barbican/cert.must[[]uint64] -/
noncomputable def bodyc101 : Code := (Try.f101.body).getD .skip
abbrev Sc101 : FL := ⟨⟨[], [.env 0 (.c (.fz (.int .u64))), .env 1 (.c (.int .i64))], []⟩, 2, [(.panic 75 0, ⟨[], [], []⟩), (.ret, ⟨[], [.env 0 (.c (.fz (.int .u64)))], []⟩)], [.tmp 4], true⟩
noncomputable def cc101 : Ctx Try.prog := ⟨ctab, ofL Ec102, ctabOk, Ec102_ok, cdep, cord⟩
noncomputable def Fc101 : (List Int) × Int → Option ((Int × (Unit)) ⊕ ((List Int)))
  | (a0, a1) =>
  (Fc71 (a1 == 0)).bind fun
   | (.inl (e1, _)) =>
    some (.inl (e1, ()))
   | (.inr _) =>
    some (.inr a0)

noncomputable def annc101 : Ann := .none
theorem eqc101 : ∀ x : Sc101.inT, exec ctab (ofL Ec102) 9 bodyc101 annc101 (finL ctab Sc101) (Sc101.inp.enc x) = Fc101 x := by
  rintro ⟨a0, a1⟩
  kernel_rfl
theorem callsc101 : CallsL Try.prog 101 Sc101 Fc101 := by
  refine fun_callsL (fn := Try.f101) (c := bodyc101) (ann := annc101) cc101 (by kernel_rfl) (by kernel_rfl) (by kernel_rfl) (by kernel_rfl) (by kernel_rfl) (annOk_of_cuts ?_) eqc101
  intro x hx
  exact absurd hx (by show x ∉ ([] : List (List Nat × LEnt)); simp)

theorem entc101 : EntOk Try.prog 101 (funEntL Sc101 true Fc101) := fun_okL (fn := Try.f101) (c := bodyc101) (by kernel_rfl) (by kernel_rfl) (by kernel_rfl) (by kernel_rfl) callsc101
noncomputable def Ec101 : List (Nat × Ent) := (101, (funEntL Sc101 true Fc101)) :: Ec102
theorem Ec101_ok : EntsOk Try.prog (ofL Ec101) := .cons entc101 Ec102_ok

/-! ### slices.Equal[[]uint64,uint64] -/
noncomputable def bodyc103 : Code := (Try.f103.body).getD .skip
abbrev Sc103 : FL := ⟨⟨[], [.env 0 (.c (.fz (.int .u64))), .env 1 (.c (.fz (.int .u64)))], []⟩, 2, [(.ret, ⟨[], [.env 0 (.c (.bool))], []⟩)], [.tmp 4], false⟩
noncomputable def cc103 : Ctx Try.prog := ⟨ctab, ofL Ec101, ctabOk, Ec101_ok, cdep, cord⟩
abbrev lc103_0 : Lay := ⟨[], [.env 0 (.c (.fz (.int .u64))), .env 1 (.c (.fz (.int .u64))), .env 12 (.c (.int .i64)), .env 13 (.c (.int .i64))], []⟩
abbrev oc103_0 : List (AExit × Lay) := [(.ret, ⟨[], [.env 4 (.c (.bool))], []⟩), (.exit 0, ⟨[], [], []⟩)]
noncomputable def stepc103_0 : (List Int) × (List Int) × Int × Int → Option (((List Int) × (List Int) × Int × Int) ⊕ ((Bool) ⊕ (Unit)))
  | (t0, t1, t12, t13) =>
  if (decide (t13 < t12)) = true then
   if (0 : Int) ≤ t13 ∧ t13 < (t0.length : Int) then
    if (0 : Int) ≤ t13 ∧ t13 < (t1.length : Int) then
     if ((t0.getD t13.toNat 0) != (t1.getD t13.toNat 0)) = true then
      some (.inr (.inl false))
     else
      some (.inl (t0, t1, t12, (IntKind.i64.wrap (t13 + 1))))
    else none
   else none
  else
   some (.inr (.inr ()))

noncomputable def annc103_0 : Ann := .none
noncomputable def Fc103 : (List Int) × (List Int) → Option ((Bool))
  | (a0, a1) =>
  if ((a0.length : Int) != (a1.length : Int)) = true then
   some false
  else
   (loopO stepc103_0 (a0, a1, (a0.length : Int), 0)).bind fun
    | (.inl z1) =>
     some z1
    | (.inr _) =>
     some true

noncomputable def annc103 : Ann := (.seq .none (.seq .none (.seq (.seq .none (.seq (.cut (cutEnt lc103_0 oc103_0 (loopO (stepc103_0)))) .none)) .none)))
theorem eqc103_0 : ∀ s : lc103_0.T, exec ctab (ofL Ec101) 26 (Code.at' [1, 1, 0, 1, 0, 0] bodyc103) annc103_0 (fun e st => loopEnd (l := lc103_0) (outs := oc103_0) e st) (lc103_0.enc s) = stepc103_0 s := by
  rintro ⟨t0, t1, t12, t13⟩
  kernel_rfl
theorem okc103_0 : LOk Try.prog 26 (cutEnt lc103_0 oc103_0 (loopO stepc103_0)) (Code.at' [1, 1, 0, 1, 0] bodyc103) := by
  have e : Code.at' [1, 1, 0, 1, 0] bodyc103 = .loop (Code.at' [1, 1, 0, 1, 0, 0] bodyc103) := by kernel_rfl
  rw [e]
  refine loop_ok cc103 26 rfl rfl (annOk_of_cuts ?_) eqc103_0
  intro x hx
  exact absurd hx (by show x ∉ ([] : List (List Nat × LEnt)); simp)

theorem eqc103 : ∀ x : Sc103.inT, exec ctab (ofL Ec101) 26 bodyc103 annc103 (finL ctab Sc103) (Sc103.inp.enc x) = Fc103 x := by
  rintro ⟨a0, a1⟩
  kernel_rfl
theorem callsc103 : CallsL Try.prog 103 Sc103 Fc103 := by
  refine fun_callsL (fn := Try.f103) (c := bodyc103) (ann := annc103) cc103 (by kernel_rfl) (by kernel_rfl) (by kernel_rfl) (by kernel_rfl) (by kernel_rfl) (annOk_of_cuts ?_) eqc103
  have hc : Ann.cuts annc103 = [([1, 1, 0, 1, 0], (cutEnt lc103_0 oc103_0 (loopO (stepc103_0))))] := by kernel_rfl
  rw [hc]
  intro x hx
  simp only [List.mem_cons, List.not_mem_nil, or_false] at hx
  rcases hx with rfl
  · have e : Code.at' [1, 1, 0, 1, 0] bodyc103 = Code.at' [1, 1, 0, 1, 0] bodyc103 := by kernel_rfl
    rw [e]; exact okc103_0

theorem entc103 : EntOk Try.prog 103 (funEntL Sc103 true Fc103) := fun_okL (fn := Try.f103) (c := bodyc103) (by kernel_rfl) (by kernel_rfl) (by kernel_rfl) (by kernel_rfl) callsc103
noncomputable def Ec103 : List (Nat × Ent) := (103, (funEntL Sc103 true Fc103)) :: Ec101
theorem Ec103_ok : EntsOk Try.prog (ofL Ec103) := .cons entc103 Ec101_ok

/-! ### barbican/der.Bool -/
noncomputable def bodyc105 : Code := (Try.f105.body).getD .skip
abbrev Sc105 : FL := ⟨⟨[], [.env 0 (.dat .item)], []⟩, 1, [(.ret, ⟨[], [.env 0 (.c (.bool)), .env 1 (.c (.int .i64))], []⟩)], [.tmp 2, .tmp 3], false⟩
noncomputable def cc105 : Ctx Try.prog := ⟨ctab, ofL Ec103, ctabOk, Ec103_ok, cdep, cord⟩
noncomputable def Fc105 : Tree → Option ((Bool × Int))
  | a0 =>
  (Fc88 ((Tree.node a0.tag a0.body a0.kids), 1)).bind fun y1 =>
   if (y1 != 0) = true then
    some (false, y1)
   else
    if ((a0.body.length : Int) != 1) = false then
     if (0 : Int) ≤ (0 : Int) ∧ (0 : Int) < (a0.body.length : Int) then
      if ((a0.body.getD 0 0) != 0) = true then
       if (0 : Int) ≤ (0 : Int) ∧ (0 : Int) < (a0.body.length : Int) then
        if ((a0.body.getD 0 0) != 255) = true then
         some (false, 127)
        else
         if (0 : Int) ≤ (0 : Int) ∧ (0 : Int) < (a0.body.length : Int) then
          some (((a0.body.getD 0 0) != 0), 0)
         else none
       else none
      else
       if (0 : Int) ≤ (0 : Int) ∧ (0 : Int) < (a0.body.length : Int) then
        some (((a0.body.getD 0 0) != 0), 0)
       else none
     else none
    else
     some (false, 127)

noncomputable def annc105 : Ann := .none
theorem eqc105 : ∀ x : Sc105.inT, exec ctab (ofL Ec103) 32 bodyc105 annc105 (finL ctab Sc105) (Sc105.inp.enc x) = Fc105 x := by
  intro x
  kernel_rfl
theorem callsc105 : CallsL Try.prog 105 Sc105 Fc105 := by
  refine fun_callsL (fn := Try.f105) (c := bodyc105) (ann := annc105) cc105 (by kernel_rfl) (by kernel_rfl) (by kernel_rfl) (by kernel_rfl) (by kernel_rfl) (annOk_of_cuts ?_) eqc105
  intro x hx
  exact absurd hx (by show x ∉ ([] : List (List Nat × LEnt)); simp)

theorem entc105 : EntOk Try.prog 105 (funEntL Sc105 true Fc105) := fun_okL (fn := Try.f105) (c := bodyc105) (by kernel_rfl) (by kernel_rfl) (by kernel_rfl) (by kernel_rfl) callsc105
noncomputable def Ec105 : List (Nat × Ent) := (105, (funEntL Sc105 true Fc105)) :: Ec103
theorem Ec105_ok : EntsOk Try.prog (ofL Ec105) := .cons entc105 Ec103_ok

/-! ### barbican/cert.must[bool] -/
noncomputable def bodyc104 : Code := (Try.f104.body).getD .skip
abbrev Sc104 : FL := ⟨⟨[], [.env 0 (.c (.bool)), .env 1 (.c (.int .i64))], []⟩, 2, [(.panic 75 0, ⟨[], [], []⟩), (.ret, ⟨[], [.env 0 (.c (.bool))], []⟩)], [.tmp 4], false⟩
noncomputable def cc104 : Ctx Try.prog := ⟨ctab, ofL Ec105, ctabOk, Ec105_ok, cdep, cord⟩
noncomputable def Fc104 : Bool × Int → Option ((Int × (Unit)) ⊕ (Bool))
  | (a0, a1) =>
  (Fc71 (a1 == 0)).bind fun
   | (.inl (e1, _)) =>
    some (.inl (e1, ()))
   | (.inr _) =>
    some (.inr a0)

noncomputable def annc104 : Ann := .none
theorem eqc104 : ∀ x : Sc104.inT, exec ctab (ofL Ec105) 9 bodyc104 annc104 (finL ctab Sc104) (Sc104.inp.enc x) = Fc104 x := by
  rintro ⟨a0, a1⟩
  kernel_rfl
theorem callsc104 : CallsL Try.prog 104 Sc104 Fc104 := by
  refine fun_callsL (fn := Try.f104) (c := bodyc104) (ann := annc104) cc104 (by kernel_rfl) (by kernel_rfl) (by kernel_rfl) (by kernel_rfl) (by kernel_rfl) (annOk_of_cuts ?_) eqc104
  intro x hx
  exact absurd hx (by show x ∉ ([] : List (List Nat × LEnt)); simp)

theorem entc104 : EntOk Try.prog 104 (funEntL Sc104 true Fc104) := fun_okL (fn := Try.f104) (c := bodyc104) (by kernel_rfl) (by kernel_rfl) (by kernel_rfl) (by kernel_rfl) callsc104
noncomputable def Ec104 : List (Nat × Ent) := (104, (funEntL Sc104 true Fc104)) :: Ec105
theorem Ec104_ok : EntsOk Try.prog (ofL Ec104) := .cons entc104 Ec105_ok

/-! ### barbican/cert.extOf -/
noncomputable def bodyc77 : Code := (Try.f77.body).getD .skip
abbrev Sc77 : FL := ⟨⟨[], [.env 0 (.dat .item)], []⟩, 1, [(.panic 75 0, ⟨[], [], []⟩), (.ret, ⟨[], [.env 0 (.agg [.int .i64, .bool, .fz (.int .u8)])], []⟩)], [.cell 2 45], true⟩
noncomputable def cc77 : Ctx Try.prog := ⟨ctab, ofL Ec104, ctabOk, Ec104_ok, cdep, cord⟩
noncomputable def Fc77 : Tree → Option ((Int × (Unit)) ⊕ (Int × Bool × (List Int)))
  | a0 =>
  if (a0.tag == 48) = true then
   if ((a0.kids.length : Int) == 2) = false then
    (Fc71 ((a0.kids.length : Int) == 3)).bind fun
     | (.inl (e1, _)) =>
      some (.inl (e1, ()))
     | (.inr _) =>
      if (0 : Int) ≤ (0 : Int) ∧ (0 : Int) < (a0.kids.length : Int) then
       (Fc102 (Tree.node (a0.kids.getD 0 (DT.dflt .item)).tag (a0.kids.getD 0 (DT.dflt .item)).body (a0.kids.getD 0 (DT.dflt .item)).kids)).bind fun (y2, y3) =>
        (Fc101 (y2, y3)).bind fun
         | (.inl (e4, _)) =>
          some (.inl (e4, ()))
         | (.inr y5) =>
          if ((y5.length : Int) == 9) = true then
           if (0 : Int) ≤ (8 : Int) ∧ (8 : Int) ≤ (y5.length : Int) then
            let f6 : List Int := (((((((((List.replicate 8 (0 : Int)).set 0 1).set 1 3).set 2 6).set 3 1).set 4 4).set 5 1).set 6 4128).set 7 2100)
            (Fc103 ((y5.take 8), f6)).bind fun y7 =>
             if y7 = true then
              if (0 : Int) ≤ (8 : Int) ∧ (8 : Int) < (y5.length : Int) then
               (Fc71 (decide ((y5.getD 8 0) ≥ 1))).bind fun
                | (.inl (e8, _)) =>
                 some (.inl (e8, ()))
                | (.inr _) =>
                 if ((a0.kids.length : Int) == 3) = true then
                  if (0 : Int) ≤ (1 : Int) ∧ (1 : Int) < (a0.kids.length : Int) then
                   (Fc105 (Tree.node (a0.kids.getD 1 (DT.dflt .item)).tag (a0.kids.getD 1 (DT.dflt .item)).body (a0.kids.getD 1 (DT.dflt .item)).kids)).bind fun (y9, y10) =>
                    (Fc104 (y9, y10)).bind fun
                     | (.inl (e11, _)) =>
                      some (.inl (e11, ()))
                     | (.inr y12) =>
                      (Fc71 y12).bind fun
                       | (.inl (e13, _)) =>
                        some (.inl (e13, ()))
                       | (.inr _) =>
                        if (0 : Int) ≤ (IntKind.i64.wrap ((a0.kids.length : Int) - 1)) ∧ (IntKind.i64.wrap ((a0.kids.length : Int) - 1)) < (a0.kids.length : Int) then
                         let x14 : Int := (a0.kids.getD (IntKind.i64.wrap ((a0.kids.length : Int) - 1)).toNat (DT.dflt .item)).tag
                         let f15 : List Int := (a0.kids.getD (IntKind.i64.wrap ((a0.kids.length : Int) - 1)).toNat (DT.dflt .item)).body
                         let f16 : List Tree := (a0.kids.getD (IntKind.i64.wrap ((a0.kids.length : Int) - 1)).toNat (DT.dflt .item)).kids
                         (Fc71 (x14 == 4)).bind fun
                          | (.inl (e17, _)) =>
                           some (.inl (e17, ()))
                          | (.inr _) =>
                           if (0 : Int) ≤ (8 : Int) ∧ (8 : Int) < (y5.length : Int) then
                            some (.inr ((IntKind.i64.wrap (y5.getD 8 0)), ((a0.kids.length : Int) == 3), f15))
                           else none
                        else none
                  else none
                 else
                  if (0 : Int) ≤ (IntKind.i64.wrap ((a0.kids.length : Int) - 1)) ∧ (IntKind.i64.wrap ((a0.kids.length : Int) - 1)) < (a0.kids.length : Int) then
                   let x18 : Int := (a0.kids.getD (IntKind.i64.wrap ((a0.kids.length : Int) - 1)).toNat (DT.dflt .item)).tag
                   let f19 : List Int := (a0.kids.getD (IntKind.i64.wrap ((a0.kids.length : Int) - 1)).toNat (DT.dflt .item)).body
                   let f20 : List Tree := (a0.kids.getD (IntKind.i64.wrap ((a0.kids.length : Int) - 1)).toNat (DT.dflt .item)).kids
                   (Fc71 (x18 == 4)).bind fun
                    | (.inl (e21, _)) =>
                     some (.inl (e21, ()))
                    | (.inr _) =>
                     if (0 : Int) ≤ (8 : Int) ∧ (8 : Int) < (y5.length : Int) then
                      some (.inr ((IntKind.i64.wrap (y5.getD 8 0)), ((a0.kids.length : Int) == 3), f19))
                     else none
                  else none
              else none
             else
              (Fc71 false).bind fun
               | (.inl (e22, _)) =>
                some (.inl (e22, ()))
               | (.inr _) =>
                if ((a0.kids.length : Int) == 3) = true then
                 if (0 : Int) ≤ (1 : Int) ∧ (1 : Int) < (a0.kids.length : Int) then
                  (Fc105 (Tree.node (a0.kids.getD 1 (DT.dflt .item)).tag (a0.kids.getD 1 (DT.dflt .item)).body (a0.kids.getD 1 (DT.dflt .item)).kids)).bind fun (y23, y24) =>
                   (Fc104 (y23, y24)).bind fun
                    | (.inl (e25, _)) =>
                     some (.inl (e25, ()))
                    | (.inr y26) =>
                     (Fc71 y26).bind fun
                      | (.inl (e27, _)) =>
                       some (.inl (e27, ()))
                      | (.inr _) =>
                       if (0 : Int) ≤ (IntKind.i64.wrap ((a0.kids.length : Int) - 1)) ∧ (IntKind.i64.wrap ((a0.kids.length : Int) - 1)) < (a0.kids.length : Int) then
                        let x28 : Int := (a0.kids.getD (IntKind.i64.wrap ((a0.kids.length : Int) - 1)).toNat (DT.dflt .item)).tag
                        let f29 : List Int := (a0.kids.getD (IntKind.i64.wrap ((a0.kids.length : Int) - 1)).toNat (DT.dflt .item)).body
                        let f30 : List Tree := (a0.kids.getD (IntKind.i64.wrap ((a0.kids.length : Int) - 1)).toNat (DT.dflt .item)).kids
                        (Fc71 (x28 == 4)).bind fun
                         | (.inl (e31, _)) =>
                          some (.inl (e31, ()))
                         | (.inr _) =>
                          if (0 : Int) ≤ (8 : Int) ∧ (8 : Int) < (y5.length : Int) then
                           some (.inr ((IntKind.i64.wrap (y5.getD 8 0)), ((a0.kids.length : Int) == 3), f29))
                          else none
                       else none
                 else none
                else
                 if (0 : Int) ≤ (IntKind.i64.wrap ((a0.kids.length : Int) - 1)) ∧ (IntKind.i64.wrap ((a0.kids.length : Int) - 1)) < (a0.kids.length : Int) then
                  let x32 : Int := (a0.kids.getD (IntKind.i64.wrap ((a0.kids.length : Int) - 1)).toNat (DT.dflt .item)).tag
                  let f33 : List Int := (a0.kids.getD (IntKind.i64.wrap ((a0.kids.length : Int) - 1)).toNat (DT.dflt .item)).body
                  let f34 : List Tree := (a0.kids.getD (IntKind.i64.wrap ((a0.kids.length : Int) - 1)).toNat (DT.dflt .item)).kids
                  (Fc71 (x32 == 4)).bind fun
                   | (.inl (e35, _)) =>
                    some (.inl (e35, ()))
                   | (.inr _) =>
                    if (0 : Int) ≤ (8 : Int) ∧ (8 : Int) < (y5.length : Int) then
                     some (.inr ((IntKind.i64.wrap (y5.getD 8 0)), ((a0.kids.length : Int) == 3), f33))
                    else none
                 else none
           else none
          else
           (Fc71 false).bind fun
            | (.inl (e36, _)) =>
             some (.inl (e36, ()))
            | (.inr _) =>
             if ((a0.kids.length : Int) == 3) = true then
              if (0 : Int) ≤ (1 : Int) ∧ (1 : Int) < (a0.kids.length : Int) then
               (Fc105 (Tree.node (a0.kids.getD 1 (DT.dflt .item)).tag (a0.kids.getD 1 (DT.dflt .item)).body (a0.kids.getD 1 (DT.dflt .item)).kids)).bind fun (y37, y38) =>
                (Fc104 (y37, y38)).bind fun
                 | (.inl (e39, _)) =>
                  some (.inl (e39, ()))
                 | (.inr y40) =>
                  (Fc71 y40).bind fun
                   | (.inl (e41, _)) =>
                    some (.inl (e41, ()))
                   | (.inr _) =>
                    if (0 : Int) ≤ (IntKind.i64.wrap ((a0.kids.length : Int) - 1)) ∧ (IntKind.i64.wrap ((a0.kids.length : Int) - 1)) < (a0.kids.length : Int) then
                     let x42 : Int := (a0.kids.getD (IntKind.i64.wrap ((a0.kids.length : Int) - 1)).toNat (DT.dflt .item)).tag
                     let f43 : List Int := (a0.kids.getD (IntKind.i64.wrap ((a0.kids.length : Int) - 1)).toNat (DT.dflt .item)).body
                     let f44 : List Tree := (a0.kids.getD (IntKind.i64.wrap ((a0.kids.length : Int) - 1)).toNat (DT.dflt .item)).kids
                     (Fc71 (x42 == 4)).bind fun
                      | (.inl (e45, _)) =>
                       some (.inl (e45, ()))
                      | (.inr _) =>
                       if (0 : Int) ≤ (8 : Int) ∧ (8 : Int) < (y5.length : Int) then
                        some (.inr ((IntKind.i64.wrap (y5.getD 8 0)), ((a0.kids.length : Int) == 3), f43))
                       else none
                    else none
              else none
             else
              if (0 : Int) ≤ (IntKind.i64.wrap ((a0.kids.length : Int) - 1)) ∧ (IntKind.i64.wrap ((a0.kids.length : Int) - 1)) < (a0.kids.length : Int) then
               let x46 : Int := (a0.kids.getD (IntKind.i64.wrap ((a0.kids.length : Int) - 1)).toNat (DT.dflt .item)).tag
               let f47 : List Int := (a0.kids.getD (IntKind.i64.wrap ((a0.kids.length : Int) - 1)).toNat (DT.dflt .item)).body
               let f48 : List Tree := (a0.kids.getD (IntKind.i64.wrap ((a0.kids.length : Int) - 1)).toNat (DT.dflt .item)).kids
               (Fc71 (x46 == 4)).bind fun
                | (.inl (e49, _)) =>
                 some (.inl (e49, ()))
                | (.inr _) =>
                 if (0 : Int) ≤ (8 : Int) ∧ (8 : Int) < (y5.length : Int) then
                  some (.inr ((IntKind.i64.wrap (y5.getD 8 0)), ((a0.kids.length : Int) == 3), f47))
                 else none
              else none
      else none
   else
    (Fc71 true).bind fun
     | (.inl (e50, _)) =>
      some (.inl (e50, ()))
     | (.inr _) =>
      if (0 : Int) ≤ (0 : Int) ∧ (0 : Int) < (a0.kids.length : Int) then
       (Fc102 (Tree.node (a0.kids.getD 0 (DT.dflt .item)).tag (a0.kids.getD 0 (DT.dflt .item)).body (a0.kids.getD 0 (DT.dflt .item)).kids)).bind fun (y51, y52) =>
        (Fc101 (y51, y52)).bind fun
         | (.inl (e53, _)) =>
          some (.inl (e53, ()))
         | (.inr y54) =>
          if ((y54.length : Int) == 9) = true then
           if (0 : Int) ≤ (8 : Int) ∧ (8 : Int) ≤ (y54.length : Int) then
            let f55 : List Int := (((((((((List.replicate 8 (0 : Int)).set 0 1).set 1 3).set 2 6).set 3 1).set 4 4).set 5 1).set 6 4128).set 7 2100)
            (Fc103 ((y54.take 8), f55)).bind fun y56 =>
             if y56 = true then
              if (0 : Int) ≤ (8 : Int) ∧ (8 : Int) < (y54.length : Int) then
               (Fc71 (decide ((y54.getD 8 0) ≥ 1))).bind fun
                | (.inl (e57, _)) =>
                 some (.inl (e57, ()))
                | (.inr _) =>
                 if ((a0.kids.length : Int) == 3) = true then
                  if (0 : Int) ≤ (1 : Int) ∧ (1 : Int) < (a0.kids.length : Int) then
                   (Fc105 (Tree.node (a0.kids.getD 1 (DT.dflt .item)).tag (a0.kids.getD 1 (DT.dflt .item)).body (a0.kids.getD 1 (DT.dflt .item)).kids)).bind fun (y58, y59) =>
                    (Fc104 (y58, y59)).bind fun
                     | (.inl (e60, _)) =>
                      some (.inl (e60, ()))
                     | (.inr y61) =>
                      (Fc71 y61).bind fun
                       | (.inl (e62, _)) =>
                        some (.inl (e62, ()))
                       | (.inr _) =>
                        if (0 : Int) ≤ (IntKind.i64.wrap ((a0.kids.length : Int) - 1)) ∧ (IntKind.i64.wrap ((a0.kids.length : Int) - 1)) < (a0.kids.length : Int) then
                         let x63 : Int := (a0.kids.getD (IntKind.i64.wrap ((a0.kids.length : Int) - 1)).toNat (DT.dflt .item)).tag
                         let f64 : List Int := (a0.kids.getD (IntKind.i64.wrap ((a0.kids.length : Int) - 1)).toNat (DT.dflt .item)).body
                         let f65 : List Tree := (a0.kids.getD (IntKind.i64.wrap ((a0.kids.length : Int) - 1)).toNat (DT.dflt .item)).kids
                         (Fc71 (x63 == 4)).bind fun
                          | (.inl (e66, _)) =>
                           some (.inl (e66, ()))
                          | (.inr _) =>
                           if (0 : Int) ≤ (8 : Int) ∧ (8 : Int) < (y54.length : Int) then
                            some (.inr ((IntKind.i64.wrap (y54.getD 8 0)), ((a0.kids.length : Int) == 3), f64))
                           else none
                        else none
                  else none
                 else
                  if (0 : Int) ≤ (IntKind.i64.wrap ((a0.kids.length : Int) - 1)) ∧ (IntKind.i64.wrap ((a0.kids.length : Int) - 1)) < (a0.kids.length : Int) then
                   let x67 : Int := (a0.kids.getD (IntKind.i64.wrap ((a0.kids.length : Int) - 1)).toNat (DT.dflt .item)).tag
                   let f68 : List Int := (a0.kids.getD (IntKind.i64.wrap ((a0.kids.length : Int) - 1)).toNat (DT.dflt .item)).body
                   let f69 : List Tree := (a0.kids.getD (IntKind.i64.wrap ((a0.kids.length : Int) - 1)).toNat (DT.dflt .item)).kids
                   (Fc71 (x67 == 4)).bind fun
                    | (.inl (e70, _)) =>
                     some (.inl (e70, ()))
                    | (.inr _) =>
                     if (0 : Int) ≤ (8 : Int) ∧ (8 : Int) < (y54.length : Int) then
                      some (.inr ((IntKind.i64.wrap (y54.getD 8 0)), ((a0.kids.length : Int) == 3), f68))
                     else none
                  else none
              else none
             else
              (Fc71 false).bind fun
               | (.inl (e71, _)) =>
                some (.inl (e71, ()))
               | (.inr _) =>
                if ((a0.kids.length : Int) == 3) = true then
                 if (0 : Int) ≤ (1 : Int) ∧ (1 : Int) < (a0.kids.length : Int) then
                  (Fc105 (Tree.node (a0.kids.getD 1 (DT.dflt .item)).tag (a0.kids.getD 1 (DT.dflt .item)).body (a0.kids.getD 1 (DT.dflt .item)).kids)).bind fun (y72, y73) =>
                   (Fc104 (y72, y73)).bind fun
                    | (.inl (e74, _)) =>
                     some (.inl (e74, ()))
                    | (.inr y75) =>
                     (Fc71 y75).bind fun
                      | (.inl (e76, _)) =>
                       some (.inl (e76, ()))
                      | (.inr _) =>
                       if (0 : Int) ≤ (IntKind.i64.wrap ((a0.kids.length : Int) - 1)) ∧ (IntKind.i64.wrap ((a0.kids.length : Int) - 1)) < (a0.kids.length : Int) then
                        let x77 : Int := (a0.kids.getD (IntKind.i64.wrap ((a0.kids.length : Int) - 1)).toNat (DT.dflt .item)).tag
                        let f78 : List Int := (a0.kids.getD (IntKind.i64.wrap ((a0.kids.length : Int) - 1)).toNat (DT.dflt .item)).body
                        let f79 : List Tree := (a0.kids.getD (IntKind.i64.wrap ((a0.kids.length : Int) - 1)).toNat (DT.dflt .item)).kids
                        (Fc71 (x77 == 4)).bind fun
                         | (.inl (e80, _)) =>
                          some (.inl (e80, ()))
                         | (.inr _) =>
                          if (0 : Int) ≤ (8 : Int) ∧ (8 : Int) < (y54.length : Int) then
                           some (.inr ((IntKind.i64.wrap (y54.getD 8 0)), ((a0.kids.length : Int) == 3), f78))
                          else none
                       else none
                 else none
                else
                 if (0 : Int) ≤ (IntKind.i64.wrap ((a0.kids.length : Int) - 1)) ∧ (IntKind.i64.wrap ((a0.kids.length : Int) - 1)) < (a0.kids.length : Int) then
                  let x81 : Int := (a0.kids.getD (IntKind.i64.wrap ((a0.kids.length : Int) - 1)).toNat (DT.dflt .item)).tag
                  let f82 : List Int := (a0.kids.getD (IntKind.i64.wrap ((a0.kids.length : Int) - 1)).toNat (DT.dflt .item)).body
                  let f83 : List Tree := (a0.kids.getD (IntKind.i64.wrap ((a0.kids.length : Int) - 1)).toNat (DT.dflt .item)).kids
                  (Fc71 (x81 == 4)).bind fun
                   | (.inl (e84, _)) =>
                    some (.inl (e84, ()))
                   | (.inr _) =>
                    if (0 : Int) ≤ (8 : Int) ∧ (8 : Int) < (y54.length : Int) then
                     some (.inr ((IntKind.i64.wrap (y54.getD 8 0)), ((a0.kids.length : Int) == 3), f82))
                    else none
                 else none
           else none
          else
           (Fc71 false).bind fun
            | (.inl (e85, _)) =>
             some (.inl (e85, ()))
            | (.inr _) =>
             if ((a0.kids.length : Int) == 3) = true then
              if (0 : Int) ≤ (1 : Int) ∧ (1 : Int) < (a0.kids.length : Int) then
               (Fc105 (Tree.node (a0.kids.getD 1 (DT.dflt .item)).tag (a0.kids.getD 1 (DT.dflt .item)).body (a0.kids.getD 1 (DT.dflt .item)).kids)).bind fun (y86, y87) =>
                (Fc104 (y86, y87)).bind fun
                 | (.inl (e88, _)) =>
                  some (.inl (e88, ()))
                 | (.inr y89) =>
                  (Fc71 y89).bind fun
                   | (.inl (e90, _)) =>
                    some (.inl (e90, ()))
                   | (.inr _) =>
                    if (0 : Int) ≤ (IntKind.i64.wrap ((a0.kids.length : Int) - 1)) ∧ (IntKind.i64.wrap ((a0.kids.length : Int) - 1)) < (a0.kids.length : Int) then
                     let x91 : Int := (a0.kids.getD (IntKind.i64.wrap ((a0.kids.length : Int) - 1)).toNat (DT.dflt .item)).tag
                     let f92 : List Int := (a0.kids.getD (IntKind.i64.wrap ((a0.kids.length : Int) - 1)).toNat (DT.dflt .item)).body
                     let f93 : List Tree := (a0.kids.getD (IntKind.i64.wrap ((a0.kids.length : Int) - 1)).toNat (DT.dflt .item)).kids
                     (Fc71 (x91 == 4)).bind fun
                      | (.inl (e94, _)) =>
                       some (.inl (e94, ()))
                      | (.inr _) =>
                       if (0 : Int) ≤ (8 : Int) ∧ (8 : Int) < (y54.length : Int) then
                        some (.inr ((IntKind.i64.wrap (y54.getD 8 0)), ((a0.kids.length : Int) == 3), f92))
                       else none
                    else none
              else none
             else
              if (0 : Int) ≤ (IntKind.i64.wrap ((a0.kids.length : Int) - 1)) ∧ (IntKind.i64.wrap ((a0.kids.length : Int) - 1)) < (a0.kids.length : Int) then
               let x95 : Int := (a0.kids.getD (IntKind.i64.wrap ((a0.kids.length : Int) - 1)).toNat (DT.dflt .item)).tag
               let f96 : List Int := (a0.kids.getD (IntKind.i64.wrap ((a0.kids.length : Int) - 1)).toNat (DT.dflt .item)).body
               let f97 : List Tree := (a0.kids.getD (IntKind.i64.wrap ((a0.kids.length : Int) - 1)).toNat (DT.dflt .item)).kids
               (Fc71 (x95 == 4)).bind fun
                | (.inl (e98, _)) =>
                 some (.inl (e98, ()))
                | (.inr _) =>
                 if (0 : Int) ≤ (8 : Int) ∧ (8 : Int) < (y54.length : Int) then
                  some (.inr ((IntKind.i64.wrap (y54.getD 8 0)), ((a0.kids.length : Int) == 3), f96))
                 else none
              else none
      else none
  else
   (Fc71 false).bind fun
    | (.inl (e99, _)) =>
     some (.inl (e99, ()))
    | (.inr _) =>
     if (0 : Int) ≤ (0 : Int) ∧ (0 : Int) < (a0.kids.length : Int) then
      (Fc102 (Tree.node (a0.kids.getD 0 (DT.dflt .item)).tag (a0.kids.getD 0 (DT.dflt .item)).body (a0.kids.getD 0 (DT.dflt .item)).kids)).bind fun (y100, y101) =>
       (Fc101 (y100, y101)).bind fun
        | (.inl (e102, _)) =>
         some (.inl (e102, ()))
        | (.inr y103) =>
         if ((y103.length : Int) == 9) = true then
          if (0 : Int) ≤ (8 : Int) ∧ (8 : Int) ≤ (y103.length : Int) then
           let f104 : List Int := (((((((((List.replicate 8 (0 : Int)).set 0 1).set 1 3).set 2 6).set 3 1).set 4 4).set 5 1).set 6 4128).set 7 2100)
           (Fc103 ((y103.take 8), f104)).bind fun y105 =>
            if y105 = true then
             if (0 : Int) ≤ (8 : Int) ∧ (8 : Int) < (y103.length : Int) then
              (Fc71 (decide ((y103.getD 8 0) ≥ 1))).bind fun
               | (.inl (e106, _)) =>
                some (.inl (e106, ()))
               | (.inr _) =>
                if ((a0.kids.length : Int) == 3) = true then
                 if (0 : Int) ≤ (1 : Int) ∧ (1 : Int) < (a0.kids.length : Int) then
                  (Fc105 (Tree.node (a0.kids.getD 1 (DT.dflt .item)).tag (a0.kids.getD 1 (DT.dflt .item)).body (a0.kids.getD 1 (DT.dflt .item)).kids)).bind fun (y107, y108) =>
                   (Fc104 (y107, y108)).bind fun
                    | (.inl (e109, _)) =>
                     some (.inl (e109, ()))
                    | (.inr y110) =>
                     (Fc71 y110).bind fun
                      | (.inl (e111, _)) =>
                       some (.inl (e111, ()))
                      | (.inr _) =>
                       if (0 : Int) ≤ (IntKind.i64.wrap ((a0.kids.length : Int) - 1)) ∧ (IntKind.i64.wrap ((a0.kids.length : Int) - 1)) < (a0.kids.length : Int) then
                        let x112 : Int := (a0.kids.getD (IntKind.i64.wrap ((a0.kids.length : Int) - 1)).toNat (DT.dflt .item)).tag
                        let f113 : List Int := (a0.kids.getD (IntKind.i64.wrap ((a0.kids.length : Int) - 1)).toNat (DT.dflt .item)).body
                        let f114 : List Tree := (a0.kids.getD (IntKind.i64.wrap ((a0.kids.length : Int) - 1)).toNat (DT.dflt .item)).kids
                        (Fc71 (x112 == 4)).bind fun
                         | (.inl (e115, _)) =>
                          some (.inl (e115, ()))
                         | (.inr _) =>
                          if (0 : Int) ≤ (8 : Int) ∧ (8 : Int) < (y103.length : Int) then
                           some (.inr ((IntKind.i64.wrap (y103.getD 8 0)), ((a0.kids.length : Int) == 3), f113))
                          else none
                       else none
                 else none
                else
                 if (0 : Int) ≤ (IntKind.i64.wrap ((a0.kids.length : Int) - 1)) ∧ (IntKind.i64.wrap ((a0.kids.length : Int) - 1)) < (a0.kids.length : Int) then
                  let x116 : Int := (a0.kids.getD (IntKind.i64.wrap ((a0.kids.length : Int) - 1)).toNat (DT.dflt .item)).tag
                  let f117 : List Int := (a0.kids.getD (IntKind.i64.wrap ((a0.kids.length : Int) - 1)).toNat (DT.dflt .item)).body
                  let f118 : List Tree := (a0.kids.getD (IntKind.i64.wrap ((a0.kids.length : Int) - 1)).toNat (DT.dflt .item)).kids
                  (Fc71 (x116 == 4)).bind fun
                   | (.inl (e119, _)) =>
                    some (.inl (e119, ()))
                   | (.inr _) =>
                    if (0 : Int) ≤ (8 : Int) ∧ (8 : Int) < (y103.length : Int) then
                     some (.inr ((IntKind.i64.wrap (y103.getD 8 0)), ((a0.kids.length : Int) == 3), f117))
                    else none
                 else none
             else none
            else
             (Fc71 false).bind fun
              | (.inl (e120, _)) =>
               some (.inl (e120, ()))
              | (.inr _) =>
               if ((a0.kids.length : Int) == 3) = true then
                if (0 : Int) ≤ (1 : Int) ∧ (1 : Int) < (a0.kids.length : Int) then
                 (Fc105 (Tree.node (a0.kids.getD 1 (DT.dflt .item)).tag (a0.kids.getD 1 (DT.dflt .item)).body (a0.kids.getD 1 (DT.dflt .item)).kids)).bind fun (y121, y122) =>
                  (Fc104 (y121, y122)).bind fun
                   | (.inl (e123, _)) =>
                    some (.inl (e123, ()))
                   | (.inr y124) =>
                    (Fc71 y124).bind fun
                     | (.inl (e125, _)) =>
                      some (.inl (e125, ()))
                     | (.inr _) =>
                      if (0 : Int) ≤ (IntKind.i64.wrap ((a0.kids.length : Int) - 1)) ∧ (IntKind.i64.wrap ((a0.kids.length : Int) - 1)) < (a0.kids.length : Int) then
                       let x126 : Int := (a0.kids.getD (IntKind.i64.wrap ((a0.kids.length : Int) - 1)).toNat (DT.dflt .item)).tag
                       let f127 : List Int := (a0.kids.getD (IntKind.i64.wrap ((a0.kids.length : Int) - 1)).toNat (DT.dflt .item)).body
                       let f128 : List Tree := (a0.kids.getD (IntKind.i64.wrap ((a0.kids.length : Int) - 1)).toNat (DT.dflt .item)).kids
                       (Fc71 (x126 == 4)).bind fun
                        | (.inl (e129, _)) =>
                         some (.inl (e129, ()))
                        | (.inr _) =>
                         if (0 : Int) ≤ (8 : Int) ∧ (8 : Int) < (y103.length : Int) then
                          some (.inr ((IntKind.i64.wrap (y103.getD 8 0)), ((a0.kids.length : Int) == 3), f127))
                         else none
                      else none
                else none
               else
                if (0 : Int) ≤ (IntKind.i64.wrap ((a0.kids.length : Int) - 1)) ∧ (IntKind.i64.wrap ((a0.kids.length : Int) - 1)) < (a0.kids.length : Int) then
                 let x130 : Int := (a0.kids.getD (IntKind.i64.wrap ((a0.kids.length : Int) - 1)).toNat (DT.dflt .item)).tag
                 let f131 : List Int := (a0.kids.getD (IntKind.i64.wrap ((a0.kids.length : Int) - 1)).toNat (DT.dflt .item)).body
                 let f132 : List Tree := (a0.kids.getD (IntKind.i64.wrap ((a0.kids.length : Int) - 1)).toNat (DT.dflt .item)).kids
                 (Fc71 (x130 == 4)).bind fun
                  | (.inl (e133, _)) =>
                   some (.inl (e133, ()))
                  | (.inr _) =>
                   if (0 : Int) ≤ (8 : Int) ∧ (8 : Int) < (y103.length : Int) then
                    some (.inr ((IntKind.i64.wrap (y103.getD 8 0)), ((a0.kids.length : Int) == 3), f131))
                   else none
                else none
          else none
         else
          (Fc71 false).bind fun
           | (.inl (e134, _)) =>
            some (.inl (e134, ()))
           | (.inr _) =>
            if ((a0.kids.length : Int) == 3) = true then
             if (0 : Int) ≤ (1 : Int) ∧ (1 : Int) < (a0.kids.length : Int) then
              (Fc105 (Tree.node (a0.kids.getD 1 (DT.dflt .item)).tag (a0.kids.getD 1 (DT.dflt .item)).body (a0.kids.getD 1 (DT.dflt .item)).kids)).bind fun (y135, y136) =>
               (Fc104 (y135, y136)).bind fun
                | (.inl (e137, _)) =>
                 some (.inl (e137, ()))
                | (.inr y138) =>
                 (Fc71 y138).bind fun
                  | (.inl (e139, _)) =>
                   some (.inl (e139, ()))
                  | (.inr _) =>
                   if (0 : Int) ≤ (IntKind.i64.wrap ((a0.kids.length : Int) - 1)) ∧ (IntKind.i64.wrap ((a0.kids.length : Int) - 1)) < (a0.kids.length : Int) then
                    let x140 : Int := (a0.kids.getD (IntKind.i64.wrap ((a0.kids.length : Int) - 1)).toNat (DT.dflt .item)).tag
                    let f141 : List Int := (a0.kids.getD (IntKind.i64.wrap ((a0.kids.length : Int) - 1)).toNat (DT.dflt .item)).body
                    let f142 : List Tree := (a0.kids.getD (IntKind.i64.wrap ((a0.kids.length : Int) - 1)).toNat (DT.dflt .item)).kids
                    (Fc71 (x140 == 4)).bind fun
                     | (.inl (e143, _)) =>
                      some (.inl (e143, ()))
                     | (.inr _) =>
                      if (0 : Int) ≤ (8 : Int) ∧ (8 : Int) < (y103.length : Int) then
                       some (.inr ((IntKind.i64.wrap (y103.getD 8 0)), ((a0.kids.length : Int) == 3), f141))
                      else none
                   else none
             else none
            else
             if (0 : Int) ≤ (IntKind.i64.wrap ((a0.kids.length : Int) - 1)) ∧ (IntKind.i64.wrap ((a0.kids.length : Int) - 1)) < (a0.kids.length : Int) then
              let x144 : Int := (a0.kids.getD (IntKind.i64.wrap ((a0.kids.length : Int) - 1)).toNat (DT.dflt .item)).tag
              let f145 : List Int := (a0.kids.getD (IntKind.i64.wrap ((a0.kids.length : Int) - 1)).toNat (DT.dflt .item)).body
              let f146 : List Tree := (a0.kids.getD (IntKind.i64.wrap ((a0.kids.length : Int) - 1)).toNat (DT.dflt .item)).kids
              (Fc71 (x144 == 4)).bind fun
               | (.inl (e147, _)) =>
                some (.inl (e147, ()))
               | (.inr _) =>
                if (0 : Int) ≤ (8 : Int) ∧ (8 : Int) < (y103.length : Int) then
                 some (.inr ((IntKind.i64.wrap (y103.getD 8 0)), ((a0.kids.length : Int) == 3), f145))
                else none
             else none
     else none

noncomputable def annc77 : Ann := .none
theorem eqc77 : ∀ x : Sc77.inT, exec ctab (ofL Ec104) 81 bodyc77 annc77 (finL ctab Sc77) (Sc77.inp.enc x) = Fc77 x := by
  intro x
  kernel_rfl
theorem callsc77 : CallsL Try.prog 77 Sc77 Fc77 := by
  refine fun_callsL (fn := Try.f77) (c := bodyc77) (ann := annc77) cc77 (by kernel_rfl) (by kernel_rfl) (by kernel_rfl) (by kernel_rfl) (by kernel_rfl) (annOk_of_cuts ?_) eqc77
  intro x hx
  exact absurd hx (by show x ∉ ([] : List (List Nat × LEnt)); simp)

theorem entc77 : EntOk Try.prog 77 (funEntL Sc77 true Fc77) := fun_okL (fn := Try.f77) (c := bodyc77) (by kernel_rfl) (by kernel_rfl) (by kernel_rfl) (by kernel_rfl) callsc77
noncomputable def Ec77 : List (Nat × Ent) := (77, (funEntL Sc77 true Fc77)) :: Ec104
theorem Ec77_ok : EntsOk Try.prog (ofL Ec77) := .cons entc77 Ec104_ok

/-! ### barbican/cert.read -/
noncomputable def bodyc42 : Code := (Try.f42.body).getD .skip
abbrev Sc42 : FL := ⟨⟨[], [.env 0 (.dat .item)], []⟩, 1, [(.panic 75 0, ⟨[], [], []⟩), (.ret, ⟨[], [.env 0 (.agg [.int .u64, .str, .str, .full 1, .full 3, .full 4]), .reg 1 (.row 5 .u8), .reg 3 (.rowd 45 (.pair (.int .i64) (.pair .bool (.sl (.int .u8))))), .reg 4 (.row 5 .u8)], [(1, .env 0 3), (3, .env 0 4), (4, .env 0 5)]⟩)], [.cell 2 26], true⟩
noncomputable def cc42 : Ctx Try.prog := ⟨ctab, ofL Ec77, ctabOk, Ec77_ok, cdep, cord⟩
abbrev lc42_0 : Lay := ⟨[(2, .ptr 2 0 6), (6, .ptr 6 0 6)], [.env 3 (.c (.fz .item)), .env 111 (.c (.fz .item)), .env 112 (.c (.int .i64)), .env 113 (.c (.int .i64)), .reg 2 (.cells [.int .u64, .str, .str, .nils, .nils, .nils]), .reg 6 (.cells [.int .u64, .str, .str, .full 3086, .full 600388, .nils]), .reg 600388 (.rowd 45 (.pair (.int .i64) (.pair .bool (.sl (.int .u8))))), .reg 3086 (.row 5 .u8)], [(2, .env 2 0), (6, .env 6 0), (3086, .reg 6 3), (600388, .reg 6 4)]⟩
abbrev oc42_0 : List (AExit × Lay) := [(.panic 75 0, ⟨[], [], []⟩), (.exit 0, ⟨[(2, .ptr 2 0 6), (6, .ptr 6 0 6)], [.env 3 (.c (.fz .item)), .reg 2 (.cells [.int .u64, .str, .str, .nils, .nils, .nils]), .reg 6 (.cells [.int .u64, .str, .str, .full 3086, .full 600388, .nils]), .reg 3086 (.row 5 .u8), .reg 600388 (.rowd 45 (.pair (.int .i64) (.pair .bool (.sl (.int .u8)))))], [(2, .env 2 0), (6, .env 6 0), (3086, .reg 6 3), (600388, .reg 6 4)]⟩)]
noncomputable def stepc42_0 : (List Tree) × (List Tree) × Int × Int × (Int × ByteArray × ByteArray × Unit × Unit × Unit) × (Int × ByteArray × ByteArray × Unit × Unit × Unit) × (List (Int × (Bool × (List Int)))) × List Int → Option (((List Tree) × (List Tree) × Int × Int × (Int × ByteArray × ByteArray × Unit × Unit × Unit) × (Int × ByteArray × ByteArray × Unit × Unit × Unit) × (List (Int × (Bool × (List Int)))) × List Int) ⊕ ((Int × (Unit)) ⊕ ((List Tree) × (Int × ByteArray × ByteArray × Unit × Unit × Unit) × (Int × ByteArray × ByteArray × Unit × Unit × Unit) × List Int × (List (Int × (Bool × (List Int)))))))
  | (t3, t111, t112, t113, r2, r6, r600388, r3086) =>
  if (decide (t113 < t112)) = true then
   if (0 : Int) ≤ t113 ∧ t113 < (t111.length : Int) then
    (Fc77 (Tree.node (t111.getD t113.toNat (DT.dflt .item)).tag (t111.getD t113.toNat (DT.dflt .item)).body (t111.getD t113.toNat (DT.dflt .item)).kids)).bind fun
     | (.inl (e56, _)) =>
      some (.inr (.inl (e56, ())))
     | (.inr y57) =>
      let f58 : List (Int × (Bool × (List Int))) := ([(y57.1, (y57.2.1, y57.2.2))] : List (Int × (Bool × (List Int))))
      if okBytes (r600388.length + f58.length) 40 then
       some (.inl (t3, t111, t112, (IntKind.i64.wrap (t113 + 1)), (r2.1, r2.2.1, r2.2.2.1, (), (), ()), (r6.1, r6.2.1, r6.2.2.1, (), (), ()), (r600388 ++ f58), r3086))
      else none
   else none
  else
   some (.inr (.inr (t3, (r2.1, r2.2.1, r2.2.2.1, (), (), ()), (r6.1, r6.2.1, r6.2.2.1, (), (), ()), r3086, r600388)))

noncomputable def annc42_0 : Ann := .none
noncomputable def Fc42 : Tree → Option ((Int × (Unit)) ⊕ ((Int × ByteArray × ByteArray × Unit × Unit × Unit) × List Int × (List (Int × (Bool × (List Int)))) × List Int))
  | a0 =>
  (Fc70 ((Tree.node a0.tag a0.body a0.kids), 48, 3)).bind fun
   | (.inl (e1, _)) =>
    some (.inl (e1, ()))
   | (.inr y2) =>
    if (0 : Int) ≤ (0 : Int) ∧ (0 : Int) < (y2.length : Int) then
     if ((y2.getD 0 (DT.dflt .item)).tag == 48) = true then
      if (((y2.getD 0 (DT.dflt .item)).kids.length : Int) == 7) = false then
       (Fc71 (((y2.getD 0 (DT.dflt .item)).kids.length : Int) == 8)).bind fun
        | (.inl (e3, _)) =>
         some (.inl (e3, ()))
        | (.inr _) =>
         if (0 : Int) ≤ (0 : Int) ∧ (0 : Int) < ((y2.getD 0 (DT.dflt .item)).kids.length : Int) then
          let x4 : Int := ((y2.getD 0 (DT.dflt .item)).kids.getD 0 (DT.dflt .item)).tag
          let f5 : List Int := ((y2.getD 0 (DT.dflt .item)).kids.getD 0 (DT.dflt .item)).body
          let f6 : List Tree := ((y2.getD 0 (DT.dflt .item)).kids.getD 0 (DT.dflt .item)).kids
          (Fc70 ((Tree.node x4 f5 f6), 160, 1)).bind fun
           | (.inl (e7, _)) =>
            some (.inl (e7, ()))
           | (.inr y8) =>
            if (0 : Int) ≤ (0 : Int) ∧ (0 : Int) < (y8.length : Int) then
             (Fc52 (Tree.node (y8.getD 0 (DT.dflt .item)).tag (y8.getD 0 (DT.dflt .item)).body (y8.getD 0 (DT.dflt .item)).kids)).bind fun (y9, y10) =>
              (Fc72 (y9, y10)).bind fun
               | (.inl (e11, _)) =>
                some (.inl (e11, ()))
               | (.inr y12) =>
                (Fc71 (y12 == 2)).bind fun
                 | (.inl (e13, _)) =>
                  some (.inl (e13, ()))
                 | (.inr _) =>
                  if (0 : Int) ≤ (1 : Int) ∧ (1 : Int) < ((y2.getD 0 (DT.dflt .item)).kids.length : Int) then
                   let x14 : Int := ((y2.getD 0 (DT.dflt .item)).kids.getD 1 (DT.dflt .item)).tag
                   let f15 : List Int := ((y2.getD 0 (DT.dflt .item)).kids.getD 1 (DT.dflt .item)).body
                   let f16 : List Tree := ((y2.getD 0 (DT.dflt .item)).kids.getD 1 (DT.dflt .item)).kids
                   (Fc52 (Tree.node x14 f15 f16)).bind fun (y17, y18) =>
                    (Fc72 (y17, y18)).bind fun
                     | (.inl (e19, _)) =>
                      some (.inl (e19, ()))
                     | (.inr y20) =>
                      if (0 : Int) ≤ (2 : Int) ∧ (2 : Int) < ((y2.getD 0 (DT.dflt .item)).kids.length : Int) then
                       let x21 : Int := ((y2.getD 0 (DT.dflt .item)).kids.getD 2 (DT.dflt .item)).tag
                       let f22 : List Int := ((y2.getD 0 (DT.dflt .item)).kids.getD 2 (DT.dflt .item)).body
                       let f23 : List Tree := ((y2.getD 0 (DT.dflt .item)).kids.getD 2 (DT.dflt .item)).kids
                       (Fc48 ()).bind fun y24 =>
                        (Fc73 ((Tree.node x21 f22 f23), (Tree.node y24.tag y24.body y24.kids))).bind fun
                         | (.inl _) =>
                          if (0 : Int) ≤ (3 : Int) ∧ (3 : Int) < ((y2.getD 0 (DT.dflt .item)).kids.length : Int) then
                           let x25 : Int := ((y2.getD 0 (DT.dflt .item)).kids.getD 3 (DT.dflt .item)).tag
                           let f26 : List Int := ((y2.getD 0 (DT.dflt .item)).kids.getD 3 (DT.dflt .item)).body
                           let f27 : List Tree := ((y2.getD 0 (DT.dflt .item)).kids.getD 3 (DT.dflt .item)).kids
                           (Fc74 (Tree.node x25 f26 f27)).bind fun
                            | (.inl (e28, _)) =>
                             some (.inl (e28, ()))
                            | (.inr y29) =>
                             if (0 : Int) ≤ (4 : Int) ∧ (4 : Int) < ((y2.getD 0 (DT.dflt .item)).kids.length : Int) then
                              let x30 : Int := ((y2.getD 0 (DT.dflt .item)).kids.getD 4 (DT.dflt .item)).tag
                              let f31 : List Int := ((y2.getD 0 (DT.dflt .item)).kids.getD 4 (DT.dflt .item)).body
                              let f32 : List Tree := ((y2.getD 0 (DT.dflt .item)).kids.getD 4 (DT.dflt .item)).kids
                              (Fc75 ()).bind fun y33 =>
                               (Fc73 ((Tree.node x30 f31 f32), (Tree.node y33.tag y33.body y33.kids))).bind fun
                                | (.inl _) =>
                                 if (0 : Int) ≤ (5 : Int) ∧ (5 : Int) < ((y2.getD 0 (DT.dflt .item)).kids.length : Int) then
                                  let x34 : Int := ((y2.getD 0 (DT.dflt .item)).kids.getD 5 (DT.dflt .item)).tag
                                  let f35 : List Int := ((y2.getD 0 (DT.dflt .item)).kids.getD 5 (DT.dflt .item)).body
                                  let f36 : List Tree := ((y2.getD 0 (DT.dflt .item)).kids.getD 5 (DT.dflt .item)).kids
                                  (Fc74 (Tree.node x34 f35 f36)).bind fun
                                   | (.inl (e37, _)) =>
                                    some (.inl (e37, ()))
                                   | (.inr y38) =>
                                    if (0 : Int) ≤ (6 : Int) ∧ (6 : Int) < ((y2.getD 0 (DT.dflt .item)).kids.length : Int) then
                                     let x39 : Int := ((y2.getD 0 (DT.dflt .item)).kids.getD 6 (DT.dflt .item)).tag
                                     let f40 : List Int := ((y2.getD 0 (DT.dflt .item)).kids.getD 6 (DT.dflt .item)).body
                                     let f41 : List Tree := ((y2.getD 0 (DT.dflt .item)).kids.getD 6 (DT.dflt .item)).kids
                                     (Fc70 ((Tree.node x39 f40 f41), 48, 2)).bind fun
                                      | (.inl (e42, _)) =>
                                       some (.inl (e42, ()))
                                      | (.inr y43) =>
                                       if (0 : Int) ≤ (0 : Int) ∧ (0 : Int) < (y43.length : Int) then
                                        (Fc48 ()).bind fun y44 =>
                                         (Fc73 ((Tree.node (y43.getD 0 (DT.dflt .item)).tag (y43.getD 0 (DT.dflt .item)).body (y43.getD 0 (DT.dflt .item)).kids), (Tree.node y44.tag y44.body y44.kids))).bind fun
                                          | (.inl _) =>
                                           if (0 : Int) ≤ (1 : Int) ∧ (1 : Int) < (y43.length : Int) then
                                            (Fc53 (Tree.node (y43.getD 1 (DT.dflt .item)).tag (y43.getD 1 (DT.dflt .item)).body (y43.getD 1 (DT.dflt .item)).kids)).bind fun (y45, y46) =>
                                             (Fc76 (y45, y46)).bind fun
                                              | (.inl (e47, _)) =>
                                               some (.inl (e47, ()))
                                              | (.inr y48) =>
                                               if (((y2.getD 0 (DT.dflt .item)).kids.length : Int) == 8) = true then
                                                if (0 : Int) ≤ (7 : Int) ∧ (7 : Int) < ((y2.getD 0 (DT.dflt .item)).kids.length : Int) then
                                                 let x49 : Int := ((y2.getD 0 (DT.dflt .item)).kids.getD 7 (DT.dflt .item)).tag
                                                 let f50 : List Int := ((y2.getD 0 (DT.dflt .item)).kids.getD 7 (DT.dflt .item)).body
                                                 let f51 : List Tree := ((y2.getD 0 (DT.dflt .item)).kids.getD 7 (DT.dflt .item)).kids
                                                 (Fc70 ((Tree.node x49 f50 f51), 163, 1)).bind fun
                                                  | (.inl (e52, _)) =>
                                                   some (.inl (e52, ()))
                                                  | (.inr y53) =>
                                                   if (0 : Int) ≤ (0 : Int) ∧ (0 : Int) < (y53.length : Int) then
                                                    if ((y53.getD 0 (DT.dflt .item)).tag == 48) = true then
                                                     let x54 : Bool := (decide (((y53.getD 0 (DT.dflt .item)).kids.length : Int) > 0))
                                                     (Fc71 x54).bind fun
                                                      | (.inl (e55, _)) =>
                                                       some (.inl (e55, ()))
                                                      | (.inr _) =>
                                                       (loopO stepc42_0 (y2, (y53.getD 0 (DT.dflt .item)).kids, ((y53.getD 0 (DT.dflt .item)).kids.length : Int), 0, (0, ByteArray.empty, ByteArray.empty, (), (), ()), (y20, y29, y38, (), (), ()), ([] : List (Int × (Bool × (List Int)))), y48)).bind fun
                                                        | (.inl (e59, _)) =>
                                                         some (.inl (e59, ()))
                                                        | (.inr (z60, z61, z62, z63, z64)) =>
                                                         if (0 : Int) ≤ (1 : Int) ∧ (1 : Int) < (z60.length : Int) then
                                                          (Fc48 ()).bind fun y65 =>
                                                           (Fc73 ((Tree.node (z60.getD 1 (DT.dflt .item)).tag (z60.getD 1 (DT.dflt .item)).body (z60.getD 1 (DT.dflt .item)).kids), (Tree.node y65.tag y65.body y65.kids))).bind fun
                                                            | (.inl _) =>
                                                             if (0 : Int) ≤ (2 : Int) ∧ (2 : Int) < (z60.length : Int) then
                                                              (Fc53 (Tree.node (z60.getD 2 (DT.dflt .item)).tag (z60.getD 2 (DT.dflt .item)).body (z60.getD 2 (DT.dflt .item)).kids)).bind fun (y66, y67) =>
                                                               (Fc76 (y66, y67)).bind fun
                                                                | (.inl (e68, _)) =>
                                                                 some (.inl (e68, ()))
                                                                | (.inr y69) =>
                                                                 some (.inr ((z62.1, z62.2.1, z62.2.2.1, (), (), ()), z63, z64, y69))
                                                             else none
                                                            | (.inr (e70, _)) =>
                                                             some (.inl (e70, ()))
                                                         else none
                                                    else
                                                     (Fc71 false).bind fun
                                                      | (.inl (e71, _)) =>
                                                       some (.inl (e71, ()))
                                                      | (.inr _) =>
                                                       (loopO stepc42_0 (y2, (y53.getD 0 (DT.dflt .item)).kids, ((y53.getD 0 (DT.dflt .item)).kids.length : Int), 0, (0, ByteArray.empty, ByteArray.empty, (), (), ()), (y20, y29, y38, (), (), ()), ([] : List (Int × (Bool × (List Int)))), y48)).bind fun
                                                        | (.inl (e72, _)) =>
                                                         some (.inl (e72, ()))
                                                        | (.inr (z73, z74, z75, z76, z77)) =>
                                                         if (0 : Int) ≤ (1 : Int) ∧ (1 : Int) < (z73.length : Int) then
                                                          (Fc48 ()).bind fun y78 =>
                                                           (Fc73 ((Tree.node (z73.getD 1 (DT.dflt .item)).tag (z73.getD 1 (DT.dflt .item)).body (z73.getD 1 (DT.dflt .item)).kids), (Tree.node y78.tag y78.body y78.kids))).bind fun
                                                            | (.inl _) =>
                                                             if (0 : Int) ≤ (2 : Int) ∧ (2 : Int) < (z73.length : Int) then
                                                              (Fc53 (Tree.node (z73.getD 2 (DT.dflt .item)).tag (z73.getD 2 (DT.dflt .item)).body (z73.getD 2 (DT.dflt .item)).kids)).bind fun (y79, y80) =>
                                                               (Fc76 (y79, y80)).bind fun
                                                                | (.inl (e81, _)) =>
                                                                 some (.inl (e81, ()))
                                                                | (.inr y82) =>
                                                                 some (.inr ((z75.1, z75.2.1, z75.2.2.1, (), (), ()), z76, z77, y82))
                                                             else none
                                                            | (.inr (e83, _)) =>
                                                             some (.inl (e83, ()))
                                                         else none
                                                   else none
                                                else none
                                               else
                                                if (0 : Int) ≤ (1 : Int) ∧ (1 : Int) < (y2.length : Int) then
                                                 (Fc48 ()).bind fun y84 =>
                                                  (Fc73 ((Tree.node (y2.getD 1 (DT.dflt .item)).tag (y2.getD 1 (DT.dflt .item)).body (y2.getD 1 (DT.dflt .item)).kids), (Tree.node y84.tag y84.body y84.kids))).bind fun
                                                   | (.inl _) =>
                                                    if (0 : Int) ≤ (2 : Int) ∧ (2 : Int) < (y2.length : Int) then
                                                     (Fc53 (Tree.node (y2.getD 2 (DT.dflt .item)).tag (y2.getD 2 (DT.dflt .item)).body (y2.getD 2 (DT.dflt .item)).kids)).bind fun (y85, y86) =>
                                                      (Fc76 (y85, y86)).bind fun
                                                       | (.inl (e87, _)) =>
                                                        some (.inl (e87, ()))
                                                       | (.inr y88) =>
                                                        some (.inr ((y20, y29, y38, (), (), ()), y48, ([] : List (Int × (Bool × (List Int)))), y88))
                                                    else none
                                                   | (.inr (e89, _)) =>
                                                    some (.inl (e89, ()))
                                                else none
                                           else none
                                          | (.inr (e90, _)) =>
                                           some (.inl (e90, ()))
                                       else none
                                    else none
                                 else none
                                | (.inr (e91, _)) =>
                                 some (.inl (e91, ()))
                             else none
                          else none
                         | (.inr (e92, _)) =>
                          some (.inl (e92, ()))
                      else none
                  else none
            else none
         else none
      else
       (Fc71 true).bind fun
        | (.inl (e93, _)) =>
         some (.inl (e93, ()))
        | (.inr _) =>
         if (0 : Int) ≤ (0 : Int) ∧ (0 : Int) < ((y2.getD 0 (DT.dflt .item)).kids.length : Int) then
          let x94 : Int := ((y2.getD 0 (DT.dflt .item)).kids.getD 0 (DT.dflt .item)).tag
          let f95 : List Int := ((y2.getD 0 (DT.dflt .item)).kids.getD 0 (DT.dflt .item)).body
          let f96 : List Tree := ((y2.getD 0 (DT.dflt .item)).kids.getD 0 (DT.dflt .item)).kids
          (Fc70 ((Tree.node x94 f95 f96), 160, 1)).bind fun
           | (.inl (e97, _)) =>
            some (.inl (e97, ()))
           | (.inr y98) =>
            if (0 : Int) ≤ (0 : Int) ∧ (0 : Int) < (y98.length : Int) then
             (Fc52 (Tree.node (y98.getD 0 (DT.dflt .item)).tag (y98.getD 0 (DT.dflt .item)).body (y98.getD 0 (DT.dflt .item)).kids)).bind fun (y99, y100) =>
              (Fc72 (y99, y100)).bind fun
               | (.inl (e101, _)) =>
                some (.inl (e101, ()))
               | (.inr y102) =>
                (Fc71 (y102 == 2)).bind fun
                 | (.inl (e103, _)) =>
                  some (.inl (e103, ()))
                 | (.inr _) =>
                  if (0 : Int) ≤ (1 : Int) ∧ (1 : Int) < ((y2.getD 0 (DT.dflt .item)).kids.length : Int) then
                   let x104 : Int := ((y2.getD 0 (DT.dflt .item)).kids.getD 1 (DT.dflt .item)).tag
                   let f105 : List Int := ((y2.getD 0 (DT.dflt .item)).kids.getD 1 (DT.dflt .item)).body
                   let f106 : List Tree := ((y2.getD 0 (DT.dflt .item)).kids.getD 1 (DT.dflt .item)).kids
                   (Fc52 (Tree.node x104 f105 f106)).bind fun (y107, y108) =>
                    (Fc72 (y107, y108)).bind fun
                     | (.inl (e109, _)) =>
                      some (.inl (e109, ()))
                     | (.inr y110) =>
                      if (0 : Int) ≤ (2 : Int) ∧ (2 : Int) < ((y2.getD 0 (DT.dflt .item)).kids.length : Int) then
                       let x111 : Int := ((y2.getD 0 (DT.dflt .item)).kids.getD 2 (DT.dflt .item)).tag
                       let f112 : List Int := ((y2.getD 0 (DT.dflt .item)).kids.getD 2 (DT.dflt .item)).body
                       let f113 : List Tree := ((y2.getD 0 (DT.dflt .item)).kids.getD 2 (DT.dflt .item)).kids
                       (Fc48 ()).bind fun y114 =>
                        (Fc73 ((Tree.node x111 f112 f113), (Tree.node y114.tag y114.body y114.kids))).bind fun
                         | (.inl _) =>
                          if (0 : Int) ≤ (3 : Int) ∧ (3 : Int) < ((y2.getD 0 (DT.dflt .item)).kids.length : Int) then
                           let x115 : Int := ((y2.getD 0 (DT.dflt .item)).kids.getD 3 (DT.dflt .item)).tag
                           let f116 : List Int := ((y2.getD 0 (DT.dflt .item)).kids.getD 3 (DT.dflt .item)).body
                           let f117 : List Tree := ((y2.getD 0 (DT.dflt .item)).kids.getD 3 (DT.dflt .item)).kids
                           (Fc74 (Tree.node x115 f116 f117)).bind fun
                            | (.inl (e118, _)) =>
                             some (.inl (e118, ()))
                            | (.inr y119) =>
                             if (0 : Int) ≤ (4 : Int) ∧ (4 : Int) < ((y2.getD 0 (DT.dflt .item)).kids.length : Int) then
                              let x120 : Int := ((y2.getD 0 (DT.dflt .item)).kids.getD 4 (DT.dflt .item)).tag
                              let f121 : List Int := ((y2.getD 0 (DT.dflt .item)).kids.getD 4 (DT.dflt .item)).body
                              let f122 : List Tree := ((y2.getD 0 (DT.dflt .item)).kids.getD 4 (DT.dflt .item)).kids
                              (Fc75 ()).bind fun y123 =>
                               (Fc73 ((Tree.node x120 f121 f122), (Tree.node y123.tag y123.body y123.kids))).bind fun
                                | (.inl _) =>
                                 if (0 : Int) ≤ (5 : Int) ∧ (5 : Int) < ((y2.getD 0 (DT.dflt .item)).kids.length : Int) then
                                  let x124 : Int := ((y2.getD 0 (DT.dflt .item)).kids.getD 5 (DT.dflt .item)).tag
                                  let f125 : List Int := ((y2.getD 0 (DT.dflt .item)).kids.getD 5 (DT.dflt .item)).body
                                  let f126 : List Tree := ((y2.getD 0 (DT.dflt .item)).kids.getD 5 (DT.dflt .item)).kids
                                  (Fc74 (Tree.node x124 f125 f126)).bind fun
                                   | (.inl (e127, _)) =>
                                    some (.inl (e127, ()))
                                   | (.inr y128) =>
                                    if (0 : Int) ≤ (6 : Int) ∧ (6 : Int) < ((y2.getD 0 (DT.dflt .item)).kids.length : Int) then
                                     let x129 : Int := ((y2.getD 0 (DT.dflt .item)).kids.getD 6 (DT.dflt .item)).tag
                                     let f130 : List Int := ((y2.getD 0 (DT.dflt .item)).kids.getD 6 (DT.dflt .item)).body
                                     let f131 : List Tree := ((y2.getD 0 (DT.dflt .item)).kids.getD 6 (DT.dflt .item)).kids
                                     (Fc70 ((Tree.node x129 f130 f131), 48, 2)).bind fun
                                      | (.inl (e132, _)) =>
                                       some (.inl (e132, ()))
                                      | (.inr y133) =>
                                       if (0 : Int) ≤ (0 : Int) ∧ (0 : Int) < (y133.length : Int) then
                                        (Fc48 ()).bind fun y134 =>
                                         (Fc73 ((Tree.node (y133.getD 0 (DT.dflt .item)).tag (y133.getD 0 (DT.dflt .item)).body (y133.getD 0 (DT.dflt .item)).kids), (Tree.node y134.tag y134.body y134.kids))).bind fun
                                          | (.inl _) =>
                                           if (0 : Int) ≤ (1 : Int) ∧ (1 : Int) < (y133.length : Int) then
                                            (Fc53 (Tree.node (y133.getD 1 (DT.dflt .item)).tag (y133.getD 1 (DT.dflt .item)).body (y133.getD 1 (DT.dflt .item)).kids)).bind fun (y135, y136) =>
                                             (Fc76 (y135, y136)).bind fun
                                              | (.inl (e137, _)) =>
                                               some (.inl (e137, ()))
                                              | (.inr y138) =>
                                               if (((y2.getD 0 (DT.dflt .item)).kids.length : Int) == 8) = true then
                                                if (0 : Int) ≤ (7 : Int) ∧ (7 : Int) < ((y2.getD 0 (DT.dflt .item)).kids.length : Int) then
                                                 let x139 : Int := ((y2.getD 0 (DT.dflt .item)).kids.getD 7 (DT.dflt .item)).tag
                                                 let f140 : List Int := ((y2.getD 0 (DT.dflt .item)).kids.getD 7 (DT.dflt .item)).body
                                                 let f141 : List Tree := ((y2.getD 0 (DT.dflt .item)).kids.getD 7 (DT.dflt .item)).kids
                                                 (Fc70 ((Tree.node x139 f140 f141), 163, 1)).bind fun
                                                  | (.inl (e142, _)) =>
                                                   some (.inl (e142, ()))
                                                  | (.inr y143) =>
                                                   if (0 : Int) ≤ (0 : Int) ∧ (0 : Int) < (y143.length : Int) then
                                                    if ((y143.getD 0 (DT.dflt .item)).tag == 48) = true then
                                                     let x144 : Bool := (decide (((y143.getD 0 (DT.dflt .item)).kids.length : Int) > 0))
                                                     (Fc71 x144).bind fun
                                                      | (.inl (e145, _)) =>
                                                       some (.inl (e145, ()))
                                                      | (.inr _) =>
                                                       (loopO stepc42_0 (y2, (y143.getD 0 (DT.dflt .item)).kids, ((y143.getD 0 (DT.dflt .item)).kids.length : Int), 0, (0, ByteArray.empty, ByteArray.empty, (), (), ()), (y110, y119, y128, (), (), ()), ([] : List (Int × (Bool × (List Int)))), y138)).bind fun
                                                        | (.inl (e146, _)) =>
                                                         some (.inl (e146, ()))
                                                        | (.inr (z147, z148, z149, z150, z151)) =>
                                                         if (0 : Int) ≤ (1 : Int) ∧ (1 : Int) < (z147.length : Int) then
                                                          (Fc48 ()).bind fun y152 =>
                                                           (Fc73 ((Tree.node (z147.getD 1 (DT.dflt .item)).tag (z147.getD 1 (DT.dflt .item)).body (z147.getD 1 (DT.dflt .item)).kids), (Tree.node y152.tag y152.body y152.kids))).bind fun
                                                            | (.inl _) =>
                                                             if (0 : Int) ≤ (2 : Int) ∧ (2 : Int) < (z147.length : Int) then
                                                              (Fc53 (Tree.node (z147.getD 2 (DT.dflt .item)).tag (z147.getD 2 (DT.dflt .item)).body (z147.getD 2 (DT.dflt .item)).kids)).bind fun (y153, y154) =>
                                                               (Fc76 (y153, y154)).bind fun
                                                                | (.inl (e155, _)) =>
                                                                 some (.inl (e155, ()))
                                                                | (.inr y156) =>
                                                                 some (.inr ((z149.1, z149.2.1, z149.2.2.1, (), (), ()), z150, z151, y156))
                                                             else none
                                                            | (.inr (e157, _)) =>
                                                             some (.inl (e157, ()))
                                                         else none
                                                    else
                                                     (Fc71 false).bind fun
                                                      | (.inl (e158, _)) =>
                                                       some (.inl (e158, ()))
                                                      | (.inr _) =>
                                                       (loopO stepc42_0 (y2, (y143.getD 0 (DT.dflt .item)).kids, ((y143.getD 0 (DT.dflt .item)).kids.length : Int), 0, (0, ByteArray.empty, ByteArray.empty, (), (), ()), (y110, y119, y128, (), (), ()), ([] : List (Int × (Bool × (List Int)))), y138)).bind fun
                                                        | (.inl (e159, _)) =>
                                                         some (.inl (e159, ()))
                                                        | (.inr (z160, z161, z162, z163, z164)) =>
                                                         if (0 : Int) ≤ (1 : Int) ∧ (1 : Int) < (z160.length : Int) then
                                                          (Fc48 ()).bind fun y165 =>
                                                           (Fc73 ((Tree.node (z160.getD 1 (DT.dflt .item)).tag (z160.getD 1 (DT.dflt .item)).body (z160.getD 1 (DT.dflt .item)).kids), (Tree.node y165.tag y165.body y165.kids))).bind fun
                                                            | (.inl _) =>
                                                             if (0 : Int) ≤ (2 : Int) ∧ (2 : Int) < (z160.length : Int) then
                                                              (Fc53 (Tree.node (z160.getD 2 (DT.dflt .item)).tag (z160.getD 2 (DT.dflt .item)).body (z160.getD 2 (DT.dflt .item)).kids)).bind fun (y166, y167) =>
                                                               (Fc76 (y166, y167)).bind fun
                                                                | (.inl (e168, _)) =>
                                                                 some (.inl (e168, ()))
                                                                | (.inr y169) =>
                                                                 some (.inr ((z162.1, z162.2.1, z162.2.2.1, (), (), ()), z163, z164, y169))
                                                             else none
                                                            | (.inr (e170, _)) =>
                                                             some (.inl (e170, ()))
                                                         else none
                                                   else none
                                                else none
                                               else
                                                if (0 : Int) ≤ (1 : Int) ∧ (1 : Int) < (y2.length : Int) then
                                                 (Fc48 ()).bind fun y171 =>
                                                  (Fc73 ((Tree.node (y2.getD 1 (DT.dflt .item)).tag (y2.getD 1 (DT.dflt .item)).body (y2.getD 1 (DT.dflt .item)).kids), (Tree.node y171.tag y171.body y171.kids))).bind fun
                                                   | (.inl _) =>
                                                    if (0 : Int) ≤ (2 : Int) ∧ (2 : Int) < (y2.length : Int) then
                                                     (Fc53 (Tree.node (y2.getD 2 (DT.dflt .item)).tag (y2.getD 2 (DT.dflt .item)).body (y2.getD 2 (DT.dflt .item)).kids)).bind fun (y172, y173) =>
                                                      (Fc76 (y172, y173)).bind fun
                                                       | (.inl (e174, _)) =>
                                                        some (.inl (e174, ()))
                                                       | (.inr y175) =>
                                                        some (.inr ((y110, y119, y128, (), (), ()), y138, ([] : List (Int × (Bool × (List Int)))), y175))
                                                    else none
                                                   | (.inr (e176, _)) =>
                                                    some (.inl (e176, ()))
                                                else none
                                           else none
                                          | (.inr (e177, _)) =>
                                           some (.inl (e177, ()))
                                       else none
                                    else none
                                 else none
                                | (.inr (e178, _)) =>
                                 some (.inl (e178, ()))
                             else none
                          else none
                         | (.inr (e179, _)) =>
                          some (.inl (e179, ()))
                      else none
                  else none
            else none
         else none
     else
      (Fc71 false).bind fun
       | (.inl (e180, _)) =>
        some (.inl (e180, ()))
       | (.inr _) =>
        if (0 : Int) ≤ (0 : Int) ∧ (0 : Int) < ((y2.getD 0 (DT.dflt .item)).kids.length : Int) then
         let x181 : Int := ((y2.getD 0 (DT.dflt .item)).kids.getD 0 (DT.dflt .item)).tag
         let f182 : List Int := ((y2.getD 0 (DT.dflt .item)).kids.getD 0 (DT.dflt .item)).body
         let f183 : List Tree := ((y2.getD 0 (DT.dflt .item)).kids.getD 0 (DT.dflt .item)).kids
         (Fc70 ((Tree.node x181 f182 f183), 160, 1)).bind fun
          | (.inl (e184, _)) =>
           some (.inl (e184, ()))
          | (.inr y185) =>
           if (0 : Int) ≤ (0 : Int) ∧ (0 : Int) < (y185.length : Int) then
            (Fc52 (Tree.node (y185.getD 0 (DT.dflt .item)).tag (y185.getD 0 (DT.dflt .item)).body (y185.getD 0 (DT.dflt .item)).kids)).bind fun (y186, y187) =>
             (Fc72 (y186, y187)).bind fun
              | (.inl (e188, _)) =>
               some (.inl (e188, ()))
              | (.inr y189) =>
               (Fc71 (y189 == 2)).bind fun
                | (.inl (e190, _)) =>
                 some (.inl (e190, ()))
                | (.inr _) =>
                 if (0 : Int) ≤ (1 : Int) ∧ (1 : Int) < ((y2.getD 0 (DT.dflt .item)).kids.length : Int) then
                  let x191 : Int := ((y2.getD 0 (DT.dflt .item)).kids.getD 1 (DT.dflt .item)).tag
                  let f192 : List Int := ((y2.getD 0 (DT.dflt .item)).kids.getD 1 (DT.dflt .item)).body
                  let f193 : List Tree := ((y2.getD 0 (DT.dflt .item)).kids.getD 1 (DT.dflt .item)).kids
                  (Fc52 (Tree.node x191 f192 f193)).bind fun (y194, y195) =>
                   (Fc72 (y194, y195)).bind fun
                    | (.inl (e196, _)) =>
                     some (.inl (e196, ()))
                    | (.inr y197) =>
                     if (0 : Int) ≤ (2 : Int) ∧ (2 : Int) < ((y2.getD 0 (DT.dflt .item)).kids.length : Int) then
                      let x198 : Int := ((y2.getD 0 (DT.dflt .item)).kids.getD 2 (DT.dflt .item)).tag
                      let f199 : List Int := ((y2.getD 0 (DT.dflt .item)).kids.getD 2 (DT.dflt .item)).body
                      let f200 : List Tree := ((y2.getD 0 (DT.dflt .item)).kids.getD 2 (DT.dflt .item)).kids
                      (Fc48 ()).bind fun y201 =>
                       (Fc73 ((Tree.node x198 f199 f200), (Tree.node y201.tag y201.body y201.kids))).bind fun
                        | (.inl _) =>
                         if (0 : Int) ≤ (3 : Int) ∧ (3 : Int) < ((y2.getD 0 (DT.dflt .item)).kids.length : Int) then
                          let x202 : Int := ((y2.getD 0 (DT.dflt .item)).kids.getD 3 (DT.dflt .item)).tag
                          let f203 : List Int := ((y2.getD 0 (DT.dflt .item)).kids.getD 3 (DT.dflt .item)).body
                          let f204 : List Tree := ((y2.getD 0 (DT.dflt .item)).kids.getD 3 (DT.dflt .item)).kids
                          (Fc74 (Tree.node x202 f203 f204)).bind fun
                           | (.inl (e205, _)) =>
                            some (.inl (e205, ()))
                           | (.inr y206) =>
                            if (0 : Int) ≤ (4 : Int) ∧ (4 : Int) < ((y2.getD 0 (DT.dflt .item)).kids.length : Int) then
                             let x207 : Int := ((y2.getD 0 (DT.dflt .item)).kids.getD 4 (DT.dflt .item)).tag
                             let f208 : List Int := ((y2.getD 0 (DT.dflt .item)).kids.getD 4 (DT.dflt .item)).body
                             let f209 : List Tree := ((y2.getD 0 (DT.dflt .item)).kids.getD 4 (DT.dflt .item)).kids
                             (Fc75 ()).bind fun y210 =>
                              (Fc73 ((Tree.node x207 f208 f209), (Tree.node y210.tag y210.body y210.kids))).bind fun
                               | (.inl _) =>
                                if (0 : Int) ≤ (5 : Int) ∧ (5 : Int) < ((y2.getD 0 (DT.dflt .item)).kids.length : Int) then
                                 let x211 : Int := ((y2.getD 0 (DT.dflt .item)).kids.getD 5 (DT.dflt .item)).tag
                                 let f212 : List Int := ((y2.getD 0 (DT.dflt .item)).kids.getD 5 (DT.dflt .item)).body
                                 let f213 : List Tree := ((y2.getD 0 (DT.dflt .item)).kids.getD 5 (DT.dflt .item)).kids
                                 (Fc74 (Tree.node x211 f212 f213)).bind fun
                                  | (.inl (e214, _)) =>
                                   some (.inl (e214, ()))
                                  | (.inr y215) =>
                                   if (0 : Int) ≤ (6 : Int) ∧ (6 : Int) < ((y2.getD 0 (DT.dflt .item)).kids.length : Int) then
                                    let x216 : Int := ((y2.getD 0 (DT.dflt .item)).kids.getD 6 (DT.dflt .item)).tag
                                    let f217 : List Int := ((y2.getD 0 (DT.dflt .item)).kids.getD 6 (DT.dflt .item)).body
                                    let f218 : List Tree := ((y2.getD 0 (DT.dflt .item)).kids.getD 6 (DT.dflt .item)).kids
                                    (Fc70 ((Tree.node x216 f217 f218), 48, 2)).bind fun
                                     | (.inl (e219, _)) =>
                                      some (.inl (e219, ()))
                                     | (.inr y220) =>
                                      if (0 : Int) ≤ (0 : Int) ∧ (0 : Int) < (y220.length : Int) then
                                       (Fc48 ()).bind fun y221 =>
                                        (Fc73 ((Tree.node (y220.getD 0 (DT.dflt .item)).tag (y220.getD 0 (DT.dflt .item)).body (y220.getD 0 (DT.dflt .item)).kids), (Tree.node y221.tag y221.body y221.kids))).bind fun
                                         | (.inl _) =>
                                          if (0 : Int) ≤ (1 : Int) ∧ (1 : Int) < (y220.length : Int) then
                                           (Fc53 (Tree.node (y220.getD 1 (DT.dflt .item)).tag (y220.getD 1 (DT.dflt .item)).body (y220.getD 1 (DT.dflt .item)).kids)).bind fun (y222, y223) =>
                                            (Fc76 (y222, y223)).bind fun
                                             | (.inl (e224, _)) =>
                                              some (.inl (e224, ()))
                                             | (.inr y225) =>
                                              if (((y2.getD 0 (DT.dflt .item)).kids.length : Int) == 8) = true then
                                               if (0 : Int) ≤ (7 : Int) ∧ (7 : Int) < ((y2.getD 0 (DT.dflt .item)).kids.length : Int) then
                                                let x226 : Int := ((y2.getD 0 (DT.dflt .item)).kids.getD 7 (DT.dflt .item)).tag
                                                let f227 : List Int := ((y2.getD 0 (DT.dflt .item)).kids.getD 7 (DT.dflt .item)).body
                                                let f228 : List Tree := ((y2.getD 0 (DT.dflt .item)).kids.getD 7 (DT.dflt .item)).kids
                                                (Fc70 ((Tree.node x226 f227 f228), 163, 1)).bind fun
                                                 | (.inl (e229, _)) =>
                                                  some (.inl (e229, ()))
                                                 | (.inr y230) =>
                                                  if (0 : Int) ≤ (0 : Int) ∧ (0 : Int) < (y230.length : Int) then
                                                   if ((y230.getD 0 (DT.dflt .item)).tag == 48) = true then
                                                    let x231 : Bool := (decide (((y230.getD 0 (DT.dflt .item)).kids.length : Int) > 0))
                                                    (Fc71 x231).bind fun
                                                     | (.inl (e232, _)) =>
                                                      some (.inl (e232, ()))
                                                     | (.inr _) =>
                                                      (loopO stepc42_0 (y2, (y230.getD 0 (DT.dflt .item)).kids, ((y230.getD 0 (DT.dflt .item)).kids.length : Int), 0, (0, ByteArray.empty, ByteArray.empty, (), (), ()), (y197, y206, y215, (), (), ()), ([] : List (Int × (Bool × (List Int)))), y225)).bind fun
                                                       | (.inl (e233, _)) =>
                                                        some (.inl (e233, ()))
                                                       | (.inr (z234, z235, z236, z237, z238)) =>
                                                        if (0 : Int) ≤ (1 : Int) ∧ (1 : Int) < (z234.length : Int) then
                                                         (Fc48 ()).bind fun y239 =>
                                                          (Fc73 ((Tree.node (z234.getD 1 (DT.dflt .item)).tag (z234.getD 1 (DT.dflt .item)).body (z234.getD 1 (DT.dflt .item)).kids), (Tree.node y239.tag y239.body y239.kids))).bind fun
                                                           | (.inl _) =>
                                                            if (0 : Int) ≤ (2 : Int) ∧ (2 : Int) < (z234.length : Int) then
                                                             (Fc53 (Tree.node (z234.getD 2 (DT.dflt .item)).tag (z234.getD 2 (DT.dflt .item)).body (z234.getD 2 (DT.dflt .item)).kids)).bind fun (y240, y241) =>
                                                              (Fc76 (y240, y241)).bind fun
                                                               | (.inl (e242, _)) =>
                                                                some (.inl (e242, ()))
                                                               | (.inr y243) =>
                                                                some (.inr ((z236.1, z236.2.1, z236.2.2.1, (), (), ()), z237, z238, y243))
                                                            else none
                                                           | (.inr (e244, _)) =>
                                                            some (.inl (e244, ()))
                                                        else none
                                                   else
                                                    (Fc71 false).bind fun
                                                     | (.inl (e245, _)) =>
                                                      some (.inl (e245, ()))
                                                     | (.inr _) =>
                                                      (loopO stepc42_0 (y2, (y230.getD 0 (DT.dflt .item)).kids, ((y230.getD 0 (DT.dflt .item)).kids.length : Int), 0, (0, ByteArray.empty, ByteArray.empty, (), (), ()), (y197, y206, y215, (), (), ()), ([] : List (Int × (Bool × (List Int)))), y225)).bind fun
                                                       | (.inl (e246, _)) =>
                                                        some (.inl (e246, ()))
                                                       | (.inr (z247, z248, z249, z250, z251)) =>
                                                        if (0 : Int) ≤ (1 : Int) ∧ (1 : Int) < (z247.length : Int) then
                                                         (Fc48 ()).bind fun y252 =>
                                                          (Fc73 ((Tree.node (z247.getD 1 (DT.dflt .item)).tag (z247.getD 1 (DT.dflt .item)).body (z247.getD 1 (DT.dflt .item)).kids), (Tree.node y252.tag y252.body y252.kids))).bind fun
                                                           | (.inl _) =>
                                                            if (0 : Int) ≤ (2 : Int) ∧ (2 : Int) < (z247.length : Int) then
                                                             (Fc53 (Tree.node (z247.getD 2 (DT.dflt .item)).tag (z247.getD 2 (DT.dflt .item)).body (z247.getD 2 (DT.dflt .item)).kids)).bind fun (y253, y254) =>
                                                              (Fc76 (y253, y254)).bind fun
                                                               | (.inl (e255, _)) =>
                                                                some (.inl (e255, ()))
                                                               | (.inr y256) =>
                                                                some (.inr ((z249.1, z249.2.1, z249.2.2.1, (), (), ()), z250, z251, y256))
                                                            else none
                                                           | (.inr (e257, _)) =>
                                                            some (.inl (e257, ()))
                                                        else none
                                                  else none
                                               else none
                                              else
                                               if (0 : Int) ≤ (1 : Int) ∧ (1 : Int) < (y2.length : Int) then
                                                (Fc48 ()).bind fun y258 =>
                                                 (Fc73 ((Tree.node (y2.getD 1 (DT.dflt .item)).tag (y2.getD 1 (DT.dflt .item)).body (y2.getD 1 (DT.dflt .item)).kids), (Tree.node y258.tag y258.body y258.kids))).bind fun
                                                  | (.inl _) =>
                                                   if (0 : Int) ≤ (2 : Int) ∧ (2 : Int) < (y2.length : Int) then
                                                    (Fc53 (Tree.node (y2.getD 2 (DT.dflt .item)).tag (y2.getD 2 (DT.dflt .item)).body (y2.getD 2 (DT.dflt .item)).kids)).bind fun (y259, y260) =>
                                                     (Fc76 (y259, y260)).bind fun
                                                      | (.inl (e261, _)) =>
                                                       some (.inl (e261, ()))
                                                      | (.inr y262) =>
                                                       some (.inr ((y197, y206, y215, (), (), ()), y225, ([] : List (Int × (Bool × (List Int)))), y262))
                                                   else none
                                                  | (.inr (e263, _)) =>
                                                   some (.inl (e263, ()))
                                               else none
                                          else none
                                         | (.inr (e264, _)) =>
                                          some (.inl (e264, ()))
                                      else none
                                   else none
                                else none
                               | (.inr (e265, _)) =>
                                some (.inl (e265, ()))
                            else none
                         else none
                        | (.inr (e266, _)) =>
                         some (.inl (e266, ()))
                     else none
                 else none
           else none
        else none
    else none

noncomputable def annc42 : Ann := (.seq .none (.seq .none (.seq .none (.seq .none (.seq .none (.seq .none (.seq .none (.seq .none (.seq .none (.seq .none (.seq .none (.seq .none (.seq .none (.seq .none (.seq (.seq .none (.seq (.seq .none (.seq .none (.seq .none (.seq (.cut (cutEnt lc42_0 oc42_0 (loopO (stepc42_0)))) .none)))) .none)) .none)))))))))))))))
theorem eqc42_0 : ∀ s : lc42_0.T, exec ctab (ofL Ec77) 139 (Code.at' [1, 1, 1, 1, 1, 1, 1, 1, 1, 1, 1, 1, 1, 1, 0, 1, 0, 1, 1, 1, 0, 0] bodyc42) annc42_0 (fun e st => loopEnd (l := lc42_0) (outs := oc42_0) e st) (lc42_0.enc s) = stepc42_0 s := by
  rintro ⟨t3, t111, t112, t113, r2, r6, r600388, r3086⟩
  kernel_rfl
theorem okc42_0 : LOk Try.prog 139 (cutEnt lc42_0 oc42_0 (loopO stepc42_0)) (Code.at' [1, 1, 1, 1, 1, 1, 1, 1, 1, 1, 1, 1, 1, 1, 0, 1, 0, 1, 1, 1, 0] bodyc42) := by
  have e : Code.at' [1, 1, 1, 1, 1, 1, 1, 1, 1, 1, 1, 1, 1, 1, 0, 1, 0, 1, 1, 1, 0] bodyc42 = .loop (Code.at' [1, 1, 1, 1, 1, 1, 1, 1, 1, 1, 1, 1, 1, 1, 0, 1, 0, 1, 1, 1, 0, 0] bodyc42) := by kernel_rfl
  rw [e]
  refine loop_ok cc42 139 rfl rfl (annOk_of_cuts ?_) eqc42_0
  intro x hx
  exact absurd hx (by show x ∉ ([] : List (List Nat × LEnt)); simp)

theorem eqc42 : ∀ x : Sc42.inT, exec ctab (ofL Ec77) 139 bodyc42 annc42 (finL ctab Sc42) (Sc42.inp.enc x) = Fc42 x := by
  intro x
  kernel_rfl
theorem callsc42 : CallsL Try.prog 42 Sc42 Fc42 := by
  refine fun_callsL (fn := Try.f42) (c := bodyc42) (ann := annc42) cc42 (by kernel_rfl) (by kernel_rfl) (by kernel_rfl) (by kernel_rfl) (by kernel_rfl) (annOk_of_cuts ?_) eqc42
  have hc : Ann.cuts annc42 = [([1, 1, 1, 1, 1, 1, 1, 1, 1, 1, 1, 1, 1, 1, 0, 1, 0, 1, 1, 1, 0], (cutEnt lc42_0 oc42_0 (loopO (stepc42_0))))] := by kernel_rfl
  rw [hc]
  intro x hx
  simp only [List.mem_cons, List.not_mem_nil, or_false] at hx
  rcases hx with rfl
  · have e : Code.at' [1, 1, 1, 1, 1, 1, 1, 1, 1, 1, 1, 1, 1, 1, 0, 1, 0, 1, 1, 1, 0] bodyc42 = Code.at' [1, 1, 1, 1, 1, 1, 1, 1, 1, 1, 1, 1, 1, 1, 0, 1, 0, 1, 1, 1, 0] bodyc42 := by kernel_rfl
    rw [e]; exact okc42_0

theorem entc42 : EntOk Try.prog 42 (funEntL Sc42 true Fc42) := fun_okL (fn := Try.f42) (c := bodyc42) (by kernel_rfl) (by kernel_rfl) (by kernel_rfl) (by kernel_rfl) callsc42
noncomputable def Ec42 : List (Nat × Ent) := (42, (funEntL Sc42 true Fc42)) :: Ec77
theorem Ec42_ok : EntsOk Try.prog (ofL Ec42) := .cons entc42 Ec77_ok

/-! ### barbican/cert.Parse -/
/-! ### the closure 40, by hand -/
noncomputable def bodyc40 : Code := (Try.f40.body).getD .skip
noncomputable def oac40 : Array Oper := opsOf (Code.at' [0] bodyc40)
noncomputable def obc40 : Array Oper := opsOf (Code.at' [1, 0] bodyc40)
noncomputable def occ40 : Array Oper := opsOf (Code.at' [1, 1, 0, 0] bodyc40)
theorem atc40 : bodyc40 = .seq (.region 0 oac40 false) (.seq (.region 1 obc40 false) (.cond (.tmp 8) (.seq (.region 2 occ40 false) (Code.at' [1, 1, 0, 1] bodyc40)) .skip)) := by kernel_rfl
abbrev Sc40 : FL := ⟨⟨[(0, .ptr 1000000 0 6), (1, .ptr 1000001 0 1), (2, .ptr 1000002 0 1)], [.reg 1000000 (.cells [.int .u64, .str, .str, .fz (.int .u8), .fz (.pair (.int .i64) (.pair .bool (.sl (.int .u8)))), .fz (.int .u8)]), .reg 1000001 (.cells [.fz (.int .u8)]), .reg 1000002 (.cells [.int .i64])], [(1000000, .env 0 0), (1000001, .env 1 0), (1000002, .env 2 0)]⟩, 3, [(.ret, ⟨[], [.reg 1000000 (.cells [.int .u64, .str, .str, .fz (.int .u8), .fz (.pair (.int .i64) (.pair .bool (.sl (.int .u8)))), .fz (.int .u8)]), .reg 1000001 (.cells [.fz (.int .u8)]), .reg 1000002 (.cells [.int .i64])], []⟩)], [], true⟩
noncomputable def cc40 : Ctx Try.prog := ⟨ctab, ofL cE0, ctabOk, cE0_ok, cdep, cord⟩
noncomputable def FRc40 : (Int × ByteArray × ByteArray × List Int × List (Int × Bool × List Int) × List Int) × List Int × Int → Option ((Int × ByteArray × ByteArray × List Int × List (Int × Bool × List Int) × List Int) × List Int × Int) := fun x => some x
noncomputable def FPc40 (n : Int) : (Int × ByteArray × ByteArray × List Int × List (Int × Bool × List Int) × List Int) × List Int × Int → Option ((Int × ByteArray × ByteArray × List Int × List (Int × Bool × List Int) × List Int) × List Int × Int) := fun _ => some ((0, ByteArray.empty, ByteArray.empty, [], [], []), [], n)
noncomputable def stc40 (n : Int) (x : Sc40.inT) : St := { env := upd (upd (Sc40.inp.enc x).env 12 (some (.agg [.int .i64 n]))) 13 (some (.c (.bool true))), heap := (Sc40.inp.enc x).heap }
theorem exRc40 : ∀ x, exec ctab (ofL cE0) 20 .skip .none (finL ctab Sc40) (Sc40.inp.enc x) = FRc40 x := by
  intro x
  kernel_rfl
theorem exPc40 (n : Int) : ∀ x, execOps ctab (ofL cE0) 20 occ40 ((List.range' 5 3).map (opAt occ40)) (stc40 n x) [] (fun st' _ => exec ctab (ofL cE0) 20 (Code.at' [1, 1, 0, 1] bodyc40) .none (finL ctab Sc40) st') (fun _ _ _ _ _ => none) = FPc40 n x := by
  intro x
  kernel_rfl
theorem restRc40 (us : List Value) (x : Sc40.inT) (y : Sc40.outT) (w : World) (fp : FP) (β : Nat → Value) (hlen : us.length = Sc40.n) (hdfs : fp.dfs = []) (hF : FRc40 x = some y) (R : Rel Try.prog w fp us.length β (Sc40.inp.enc x) { tmps := us.toArray, defers := [] } w) :
    (Code.seq (.region 1 obc40 false) (.cond (.tmp 8) (.seq (.region 2 occ40 false) (Code.at' [1, 1, 0, 1] bodyc40)) .skip)).wp Try.prog (bodyPost Try.prog Try.f40 (EndL Try.prog Sc40 fp w y)) (act2 Try.f40.ntmps 6 3 us .nilIface) w := by
  have nn : Try.f40.ntmps = 20 := by kernel_rfl
  obtain ⟨anc, hb, dfs⟩ := fp
  have hdfs : dfs = [] := hdfs
  subst hdfs
  match us, hlen with
  | [p0, p1, p2], _ =>
  rw [nn]
  have e0 : (opAt obc40 0).dst = some 7 := by kernel_rfl
  have e1 : (opAt obc40 1).dst = some 8 := by kernel_rfl
  have r1 : List.range obc40.size = [0, 1] := by kernel_rfl
  refine wp_seq (wp_region ?_)
  rw [r1]
  refine wpOps_val (o := opAt obc40 0) (v := .nilIface) (w' := w) (by kernel_rfl) (by kernel_rfl) (by kernel_rfl) ?_
  refine wpOps_val (o := opAt obc40 1) (v := .bool false) (w' := w) (by kernel_rfl) (by kernel_rfl) (by kernel_rfl) ?_
  rw [e0, e1]
  refine wp_cond_false (by kernel_rfl) ?_
  refine rest_callsL cc40 (fn := Try.f40) (S := Sc40) (c := .skip) (ann := .none) (y := y) (w := w) (w1 := w) (st := Sc40.inp.enc x) (β := β) (fp := ⟨anc, hb, []⟩) (by kernel_rfl) (by kernel_rfl) (by kernel_rfl) noCuts rfl ((exRc40 x).trans hF) ?_
  refine R.act rfl (by kernel_rfl) (by decide) (fun t av ht => ?_)
  have h1 := R.env t av ht
  match t with
  | 0 => exact avEq h1 (by kernel_rfl)
  | 1 => exact avEq h1 (by kernel_rfl)
  | 2 => exact avEq h1 (by kernel_rfl)
  | t + 3 => cases ht
theorem restPc40 (n : Int) (us : List Value) (x : Sc40.inT) (y : Sc40.outT) (w : World) (fp : FP) (β : Nat → Value) (hlen : us.length = Sc40.n) (hdfs : fp.dfs = []) (hF : FPc40 n x = some y) (R : Rel Try.prog w fp us.length β (Sc40.inp.enc x) { tmps := us.toArray, defers := [] } w) :
    (Code.seq (.region 1 obc40 false) (.cond (.tmp 8) (.seq (.region 2 occ40 false) (Code.at' [1, 1, 0, 1] bodyc40)) .skip)).wp Try.prog (bodyPost Try.prog Try.f40 (EndL Try.prog Sc40 fp w y)) (act2 Try.f40.ntmps 6 3 us (.iface 75 (.agg #[.int .i64 n]))) w := by
  have nn : Try.f40.ntmps = 20 := by kernel_rfl
  obtain ⟨anc, hb, dfs⟩ := fp
  have hdfs : dfs = [] := hdfs
  subst hdfs
  match us, hlen with
  | [p0, p1, p2], _ =>
  rw [nn]
  have e0 : (opAt obc40 0).dst = some 7 := by kernel_rfl
  have e1 : (opAt obc40 1).dst = some 8 := by kernel_rfl
  have d0 : (opAt occ40 0).dst = some 10 := by kernel_rfl
  have d1 : (opAt occ40 1).dst = some 11 := by kernel_rfl
  have d2 : (opAt occ40 2).dst = some 9 := by kernel_rfl
  have d3 : (opAt occ40 3).dst = some 12 := by kernel_rfl
  have d4 : (opAt occ40 4).dst = some 13 := by kernel_rfl
  have r1 : List.range obc40.size = [0, 1] := by kernel_rfl
  have r2 : List.range occ40.size = 0 :: 1 :: 2 :: 3 :: 4 :: (List.range' 5 3 ++ []) := by kernel_rfl
  refine wp_seq (wp_region ?_)
  rw [r1]
  refine wpOps_val (o := opAt obc40 0) (v := .iface 75 (.agg #[.int .i64 n])) (w' := w) (by kernel_rfl) (by kernel_rfl) (by kernel_rfl) ?_
  refine wpOps_val (o := opAt obc40 1) (v := .bool true) (w' := w) (by kernel_rfl) (by kernel_rfl) (by kernel_rfl) ?_
  rw [e0, e1]
  refine wp_cond_true (by kernel_rfl) (wp_seq (wp_region ?_))
  rw [r2]
  refine wpOps_val (o := opAt occ40 0) (v := .iface 75 (.agg #[.int .i64 n])) (w' := w) (by kernel_rfl) (by kernel_rfl) (by kernel_rfl) ?_
  refine wpOps_val (o := opAt occ40 1) (v := .tuple #[.agg #[.int .i64 n], .bool true]) (w' := w) (by kernel_rfl) (by kernel_rfl) (by kernel_rfl) ?_
  refine wpOps_val (o := opAt occ40 2) (v := .tuple #[.agg #[.int .i64 n], .bool true]) (w' := w) (by kernel_rfl) (by kernel_rfl) (by kernel_rfl) ?_
  refine wpOps_val (o := opAt occ40 3) (v := .agg #[.int .i64 n]) (w' := w) (by kernel_rfl) (by kernel_rfl) (by kernel_rfl) ?_
  refine wpOps_val (o := opAt occ40 4) (v := .bool true) (w' := w) (by kernel_rfl) (by kernel_rfl) (by kernel_rfl) ?_
  rw [d0, d1, d2, d3, d4]
  have e := exPc40 n x
  rw [hF] at e
  have hall := opAt_all (ops := occ40) (i := 5) (k := 3) (by kernel_rfl)
  refine ops_sound cc40 (i := 5) (ops := (List.range' 5 3).map (opAt occ40)) (w0 := w) (fp := ⟨anc, hb, []⟩) e hall ⟨β, ?_⟩ ?_ ?_
  · refine R.act rfl (by kernel_rfl) (by decide) (fun t av ht => ?_)
    by_cases h13 : t = 13
    · subst h13
      have ht : some (AV.c (.bool true)) = some av := ht
      cases ht
      exact avBool (by kernel_rfl)
    · by_cases h12 : t = 12
      · subst h12
        have ht : some (AV.agg [.int .i64 n]) = some av := ht
        cases ht
        exact avNum (by kernel_rfl)
      · have ht : upd (upd (Sc40.inp.enc x).env 12 (some (.agg [.int .i64 n]))) 13 (some (.c (.bool true))) t = some av := ht
        rw [upd_ne _ _ h13, upd_ne _ _ h12] at ht
        have h1 := R.env t av ht
        match t with
        | 0 => exact avEq h1 (by kernel_rfl)
        | 1 => exact avEq h1 (by kernel_rfl)
        | 2 => exact avEq h1 (by kernel_rfl)
        | t + 3 => cases ht
  · rintro st' _ a w' h1 ⟨β', R'⟩
    exact wpOps_end (rest_callsL cc40 (fn := Try.f40) (S := Sc40) (c := Code.at' [1, 1, 0, 1] bodyc40) (ann := .none) (y := y) (w := w) (w1 := w') (st := st') (a := a) (β := β') (fp := ⟨anc, hb, []⟩) (by kernel_rfl) (by kernel_rfl) (by kernel_rfl) noCuts rfl h1 R')
  · intro t m st' rest _ a w' h1
    cases h1
theorem cloc40 {u u' : FrameMode} {v : Value} (hu : Recovers u u' v) {F : Sc40.inT → Option Sc40.outT} (hrest : ∀ (us : List Value) (x : Sc40.inT) (y : Sc40.outT) (w : World) (fp : FP) (β : Nat → Value), us.length = Sc40.n → fp.dfs = [] → F x = some y → Rel Try.prog w fp us.length β (Sc40.inp.enc x) { tmps := us.toArray, defers := [] } w →
      (Code.seq (.region 1 obc40 false) (.cond (.tmp 8) (.seq (.region 2 occ40 false) (Code.at' [1, 1, 0, 1] bodyc40)) .skip)).wp Try.prog (bodyPost Try.prog Try.f40 (EndL Try.prog Sc40 fp w y)) (act2 Try.f40.ntmps 6 3 us v) w) : CallsDL Try.prog 40 Sc40 u u' F :=
  clo_callsDL2 (fn := Try.f40) (id := 0) (ops := oac40) (t0 := 6) (t1 := 3) (v := v) (o0 := opAt oac40 0) (o1 := opAt oac40 1) (by kernel_rfl) (by kernel_rfl) (by kernel_rfl) (by kernel_rfl) (by kernel_rfl) (by kernel_rfl) (by kernel_rfl) (by kernel_rfl) (by kernel_rfl) (by kernel_rfl) (fun a w => by kernel_rfl) (fun a w => by kernel_rfl) hu hrest
theorem okc40 : CloOk Try.prog 40 Sc40 75 FRc40 FPc40 := ⟨cloc40 (.inl ⟨rfl, rfl, rfl⟩) restRc40, fun n => cloc40 (.inr ⟨rfl, rfl⟩) (restPc40 n)⟩

abbrev Sc8 : FL := ⟨⟨[], [.env 0 (.c (.fz (.int .u8)))], []⟩, 1, [(.ret, ⟨[], [.env 0 (.dat (.pair (.int .u64) (.pair .str (.pair .str (.pair (.sl (.int .u8)) (.pair (.sl (.pair (.int .i64) (.pair .bool (.sl (.int .u8))))) (.sl (.int .u8)))))))), .env 1 (.c (.fz (.int .u8))), .env 2 (.c (.int .i64))], []⟩)], [.cell 2 26, .cell 3 22, .cell 4 27], true⟩
noncomputable def bodyc8 : Code := (Try.f8.body).getD .skip
noncomputable def oac8 : Array Oper := opsOf (Code.at' [1, 0] bodyc8)
theorem atc8 : bodyc8 = .seq (Code.at' [0] bodyc8) (.seq (.region 1 oac8 false) (Code.at' [1, 1] bodyc8)) := by kernel_rfl
abbrev SMc8 : FL := ⟨⟨[(2, .ptr 1000000 0 6), (3, .ptr 1000001 0 1), (4, .ptr 1000002 0 1)], [.env 0 (.c (.fz (.int .u8))), .reg 1000000 (.cells [.int .u64, .str, .str, .fz (.int .u8), .fz (.pair (.int .i64) (.pair .bool (.sl (.int .u8)))), .fz (.int .u8)]), .reg 1000001 (.cells [.fz (.int .u8)]), .reg 1000002 (.cells [.int .i64])], [(1000000, .env 2 0), (1000001, .env 3 0), (1000002, .env 4 0)]⟩, 5, [(.ret, ⟨[], [.env 0 (.dat (.pair (.int .u64) (.pair .str (.pair .str (.pair (.sl (.int .u8)) (.pair (.sl (.pair (.int .i64) (.pair .bool (.sl (.int .u8))))) (.sl (.int .u8)))))))), .env 1 (.c (.fz (.int .u8))), .env 2 (.c (.int .i64))], []⟩)], [.cell 2 26, .cell 3 22, .cell 4 27], true⟩
noncomputable def cc8 : Ctx Try.prog := ⟨ctab, ofL Ec42, ctabOk, Ec42_ok, cdep, cord⟩
noncomputable def FMc8 : List Int × (Int × ByteArray × ByteArray × List Int × List (Int × Bool × List Int) × List Int) × List Int × Int → Option ((Int × ByteArray × ByteArray × List Int × List (Int × Bool × List Int) × List Int) × List Int × Int) := fun (b, c, s, e) =>
    (Fc41 b).bind fun (y1, y2) =>
      if (y2 != 0) = true then (FRc40 ((0, ByteArray.empty, ByteArray.empty, [], [], []), [], y2)).bind fun (c', s', e') => some (c', s', e')
      else (Fc42 (Tree.node y1.tag y1.body y1.kids)).bind fun
        | .inl (e3, _) => (FPc40 e3 (c, s, y2)).bind fun (c', s', e') => some (c', s', e')
        | .inr (y4, y5, y6, y7) =>
          (Fc43 (y4.1, (y4.2.1, (y4.2.2.1, (y5, (y6, y7)))))).bind fun y8 =>
            if (y8 == 134) = false then
              if ((y7.length : Int) != 3373) = true then (Fc44 134).bind fun (e9, _) => (FPc40 e9 ((y4.1, y4.2.1, y4.2.2.1, y5, y6, y7), s, y2)).bind fun (c', s', e') => some (c', s', e')
              else
                if (y8 != 0) = true then (Fc44 y8).bind fun (e10, _) => (FPc40 e10 ((y4.1, y4.2.1, y4.2.2.1, y5, y6, y7), s, y2)).bind fun (c', s', e') => some (c', s', e')
                else
                  if (0 : Int) ≤ (0 : Int) ∧ (0 : Int) < (y1.kids.length : Int) then
                    (Fc45 (Tree.node (y1.kids.getD 0 (DT.dflt .item)).tag (y1.kids.getD 0 (DT.dflt .item)).body (y1.kids.getD 0 (DT.dflt .item)).kids)).bind fun (y11, y12) => (FRc40 ((y4.1, y4.2.1, y4.2.2.1, y5, y6, y7), y11, 0)).bind fun (c', s', e') => some (c', s', e')
                  else none
            else (Fc44 134).bind fun (e13, _) => (FPc40 e13 ((y4.1, y4.2.1, y4.2.2.1, y5, y6, y7), s, y2)).bind fun (c', s', e') => some (c', s', e')
noncomputable def Fc8 : List Int → Option ((Int × ByteArray × ByteArray × List Int × List (Int × Bool × List Int) × List Int) × List Int × Int) := fun (b : List Int) => (FMc8 (b, (0, ByteArray.empty, ByteArray.empty, [], [], []), [], 0)).bind fun (c, s, e) => some (c, s, e)
theorem eqMc8 : ∀ x, exec ctab (ofL Ec42) 43 (Code.at' [1, 1] bodyc8) .none (finD ctab SMc8 [2, 3, 4] (SMc8.inp.enc x) (funEntL Sc40 false FRc40) 75 (fun n => funEntL Sc40 false (FPc40 n))) (SMc8.inp.enc x) = FMc8 x := by
  rintro ⟨b, c, s, e⟩
  kernel_rfl
theorem eqc8 : ∀ x, deferF ctab (ofL Ec42) 43 (Code.at' [0] bodyc8) .none Sc8 SMc8 [0, 2, 3, 4] 7 FMc8 x = Fc8 x := by
  intro b
  kernel_rfl
theorem callsc8 : CallsL Try.prog 8 Sc8 Fc8 :=
  defer_callsL cc8 (fn := Try.f8) (fnc := Try.f40) (A := Code.at' [0] bodyc8) (rest := Code.at' [1, 1] bodyc8) (id := 1) (ops := oac8) (cc := bodyc40) (o0 := opAt oac8 0) (o1 := opAt oac8 1) (tc := 7) (pt := 75) (cs := [2, 3, 4]) (kn := [0, 2, 3, 4]) (SM := SMc8) (SC := Sc40) (annA := .none) (ann := .none) (FR := FRc40) (FPn := FPc40) (FM := FMc8)
    (by kernel_rfl) (by kernel_rfl) (by kernel_rfl) (by kernel_rfl) (by kernel_rfl) (by kernel_rfl) (by kernel_rfl) (by kernel_rfl) (by kernel_rfl) (by kernel_rfl)
    (fun a w => by kernel_rfl) (fun a w vs h => defer_run (o := opAt oac8 1) (ats := #[]) (by kernel_rfl) h)
    (by kernel_rfl) (by kernel_rfl) (by kernel_rfl) (by kernel_rfl) okc40 (by kernel_rfl) (by kernel_rfl) (by kernel_rfl) (by kernel_rfl) (by kernel_rfl) (by kernel_rfl) (by kernel_rfl)
    noCuts noCuts eqMc8 eqc8
theorem entc8 : EntOk Try.prog 8 (funEntL Sc8 true Fc8) := fun_okL (fn := Try.f8) (c := bodyc8) (by kernel_rfl) (by kernel_rfl) (by kernel_rfl) (by kernel_rfl) callsc8

noncomputable def Ec8 : List (Nat × Ent) := (8, funEntL Sc8 true Fc8) :: Ec42
theorem Ec8_ok : EntsOk Try.prog (ofL Ec8) := .cons entc8 Ec42_ok

/-! ### barbican/cert.Signed -/
noncomputable def bodyc15 : Code := (Try.f15.body).getD .skip
abbrev Sc15 : FL := ⟨⟨[], [.env 0 (.agg [.int .u64, .str, .str, .fz (.int .u8), .fz (.pair (.int .i64) (.pair .bool (.sl (.int .u8)))), .fz (.int .u8)])], []⟩, 1, [(.ret, ⟨[], [.env 0 (.c (.fz (.int .u8))), .env 1 (.c (.int .i64))], []⟩)], [.tmp 2, .tmp 3], true⟩
noncomputable def cc15 : Ctx Try.prog := ⟨ctab, ofL Ec8, ctabOk, Ec8_ok, cdep, cord⟩
noncomputable def Fc15 : Int × ByteArray × ByteArray × (List Int) × (List (Int × (Bool × (List Int)))) × (List Int) → Option (((List Int) × Int))
  | a0 =>
  (Fc43 (a0.1, (a0.2.1, (a0.2.2.1, (a0.2.2.2.1, (a0.2.2.2.2.1, a0.2.2.2.2.2)))))).bind fun y1 =>
   if (y1 != 0) = true then
    some (([] : List Int), y1)
   else
    (Fc46 (a0.1, (a0.2.1, (a0.2.2.1, (a0.2.2.2.1, (a0.2.2.2.2.1, a0.2.2.2.2.2)))))).bind fun y2 =>
     (Fc45 (Tree.node y2.tag y2.body y2.kids)).bind fun (y3, y4) =>
      some (y3, y4)

noncomputable def annc15 : Ann := .none
theorem eqc15 : ∀ x : Sc15.inT, exec ctab (ofL Ec8) 13 bodyc15 annc15 (finL ctab Sc15) (Sc15.inp.enc x) = Fc15 x := by
  intro x
  kernel_rfl
theorem callsc15 : CallsL Try.prog 15 Sc15 Fc15 := by
  refine fun_callsL (fn := Try.f15) (c := bodyc15) (ann := annc15) cc15 (by kernel_rfl) (by kernel_rfl) (by kernel_rfl) (by kernel_rfl) (by kernel_rfl) (annOk_of_cuts ?_) eqc15
  intro x hx
  exact absurd hx (by show x ∉ ([] : List (List Nat × LEnt)); simp)

theorem entc15 : EntOk Try.prog 15 (funEntL Sc15 true Fc15) := fun_okL (fn := Try.f15) (c := bodyc15) (by kernel_rfl) (by kernel_rfl) (by kernel_rfl) (by kernel_rfl) callsc15
noncomputable def Ec15 : List (Nat × Ent) := (15, (funEntL Sc15 true Fc15)) :: Ec8
theorem Ec15_ok : EntsOk Try.prog (ofL Ec15) := .cons entc15 Ec8_ok

/-! ### barbican/barbicanref13.Same -/
noncomputable def bodyc9 : Code := (Try.f9.body).getD .skip
abbrev Sc9 : FL := ⟨⟨[], [.env 0 (.agg [.int .u64, .str, .str, .fz (.int .u8), .fz (.pair (.int .i64) (.pair .bool (.sl (.int .u8)))), .fz (.int .u8)]), .env 1 (.agg [.int .u64, .str, .str, .fz (.int .u8), .fz (.pair (.int .i64) (.pair .bool (.sl (.int .u8)))), .fz (.int .u8)])], []⟩, 2, [(.ret, ⟨[], [.env 0 (.c (.bool))], []⟩)], [.tmp 4], false⟩
noncomputable def cc9 : Ctx Try.prog := ⟨ctab, ofL Ec15, ctabOk, Ec15_ok, cdep, cord⟩
abbrev lc9_0 : Lay := ⟨[(2, .ptr 2 0 6), (3, .ptr 3 0 6)], [.env 5 (.c (.int .i64)), .reg 2 (.cells [.int .u64, .str, .str, .fz (.int .u8), .fz (.pair (.int .i64) (.pair .bool (.sl (.int .u8)))), .fz (.int .u8)]), .reg 3 (.cells [.int .u64, .str, .str, .fz (.int .u8), .fz (.pair (.int .i64) (.pair .bool (.sl (.int .u8)))), .fz (.int .u8)])], [(2, .env 2 0), (3, .env 3 0)]⟩
abbrev oc9_0 : List (AExit × Lay) := [(.ret, ⟨[], [.env 4 (.c (.bool))], []⟩), (.exit 0, ⟨[], [], []⟩)]
noncomputable def stepc9_0 : Int × (Int × ByteArray × ByteArray × (List Int) × (List (Int × (Bool × (List Int)))) × (List Int)) × (Int × ByteArray × ByteArray × (List Int) × (List (Int × (Bool × (List Int)))) × (List Int)) → Option ((Int × (Int × ByteArray × ByteArray × (List Int) × (List (Int × (Bool × (List Int)))) × (List Int)) × (Int × ByteArray × ByteArray × (List Int) × (List (Int × (Bool × (List Int)))) × (List Int))) ⊕ ((Bool) ⊕ (Unit)))
  | (t5, r2, r3) =>
  if (decide (t5 < (r2.2.2.2.2.1.length : Int))) = true then
   if (0 : Int) ≤ t5 ∧ t5 < (r2.2.2.2.2.1.length : Int) then
    let x3 : Int := (r2.2.2.2.2.1.getD t5.toNat (DT.dflt (.pair (.int .i64) (.pair .bool (.sl (.int .u8)))))).1
    let x4 : Bool := (r2.2.2.2.2.1.getD t5.toNat (DT.dflt (.pair (.int .i64) (.pair .bool (.sl (.int .u8)))))).2.1
    let f5 : List Int := (r2.2.2.2.2.1.getD t5.toNat (DT.dflt (.pair (.int .i64) (.pair .bool (.sl (.int .u8)))))).2.2
    if (0 : Int) ≤ t5 ∧ t5 < (r3.2.2.2.2.1.length : Int) then
     let x6 : Int := (r3.2.2.2.2.1.getD t5.toNat (DT.dflt (.pair (.int .i64) (.pair .bool (.sl (.int .u8)))))).1
     let x7 : Bool := (r3.2.2.2.2.1.getD t5.toNat (DT.dflt (.pair (.int .i64) (.pair .bool (.sl (.int .u8)))))).2.1
     let f8 : List Int := (r3.2.2.2.2.1.getD t5.toNat (DT.dflt (.pair (.int .i64) (.pair .bool (.sl (.int .u8)))))).2.2
     if (x3 != x6) = false then
      if (!(x4 == x7)) = false then
       if (!((ofBytes f5).toList == (ofBytes f8).toList)) = true then
        some (.inr (.inl false))
       else
        some (.inl ((IntKind.i64.wrap (t5 + 1)), (r2.1, r2.2.1, r2.2.2.1, r2.2.2.2.1, r2.2.2.2.2.1, r2.2.2.2.2.2), (r3.1, r3.2.1, r3.2.2.1, r3.2.2.2.1, r3.2.2.2.2.1, r3.2.2.2.2.2)))
      else
       some (.inr (.inl false))
     else
      some (.inr (.inl false))
    else none
   else none
  else
   some (.inr (.inr ()))

noncomputable def annc9_0 : Ann := .none
noncomputable def Fc9 : (Int × ByteArray × ByteArray × (List Int) × (List (Int × (Bool × (List Int)))) × (List Int)) × (Int × ByteArray × ByteArray × (List Int) × (List (Int × (Bool × (List Int)))) × (List Int)) → Option ((Bool))
  | (a0, a1) =>
  if (a0.1 != a1.1) = false then
   if (!(a0.2.1.toList == a1.2.1.toList)) = false then
    if (!(a0.2.2.1.toList == a1.2.2.1.toList)) = false then
     let x1 : Bool := (!((ofBytes a0.2.2.2.1).toList == (ofBytes a1.2.2.2.1).toList))
     if x1 = false then
      let x2 : Bool := (!((ofBytes a0.2.2.2.2.2).toList == (ofBytes a1.2.2.2.2.2).toList))
      if x2 = false then
       if ((a0.2.2.2.2.1.length : Int) != (a1.2.2.2.2.1.length : Int)) = true then
        some false
       else
        (loopO stepc9_0 (0, (a0.1, a0.2.1, a0.2.2.1, a0.2.2.2.1, a0.2.2.2.2.1, a0.2.2.2.2.2), (a1.1, a1.2.1, a1.2.2.1, a1.2.2.2.1, a1.2.2.2.2.1, a1.2.2.2.2.2))).bind fun
         | (.inl z9) =>
          some z9
         | (.inr _) =>
          some true
      else
       some false
     else
      some false
    else
     some false
   else
    some false
  else
   some false

noncomputable def annc9 : Ann := (.seq .none (.seq .none (.seq (.seq .none (.seq (.cut (cutEnt lc9_0 oc9_0 (loopO (stepc9_0)))) .none)) .none)))
theorem eqc9_0 : ∀ s : lc9_0.T, exec ctab (ofL Ec15) 92 (Code.at' [1, 1, 0, 1, 0, 0] bodyc9) annc9_0 (fun e st => loopEnd (l := lc9_0) (outs := oc9_0) e st) (lc9_0.enc s) = stepc9_0 s := by
  rintro ⟨t5, r2, r3⟩
  kernel_rfl
theorem okc9_0 : LOk Try.prog 92 (cutEnt lc9_0 oc9_0 (loopO stepc9_0)) (Code.at' [1, 1, 0, 1, 0] bodyc9) := by
  have e : Code.at' [1, 1, 0, 1, 0] bodyc9 = .loop (Code.at' [1, 1, 0, 1, 0, 0] bodyc9) := by kernel_rfl
  rw [e]
  refine loop_ok cc9 92 rfl rfl (annOk_of_cuts ?_) eqc9_0
  intro x hx
  exact absurd hx (by show x ∉ ([] : List (List Nat × LEnt)); simp)

theorem eqc9 : ∀ x : Sc9.inT, exec ctab (ofL Ec15) 92 bodyc9 annc9 (finL ctab Sc9) (Sc9.inp.enc x) = Fc9 x := by
  rintro ⟨a0, a1⟩
  kernel_rfl
theorem callsc9 : CallsL Try.prog 9 Sc9 Fc9 := by
  refine fun_callsL (fn := Try.f9) (c := bodyc9) (ann := annc9) cc9 (by kernel_rfl) (by kernel_rfl) (by kernel_rfl) (by kernel_rfl) (by kernel_rfl) (annOk_of_cuts ?_) eqc9
  have hc : Ann.cuts annc9 = [([1, 1, 0, 1, 0], (cutEnt lc9_0 oc9_0 (loopO (stepc9_0))))] := by kernel_rfl
  rw [hc]
  intro x hx
  simp only [List.mem_cons, List.not_mem_nil, or_false] at hx
  rcases hx with rfl
  · have e : Code.at' [1, 1, 0, 1, 0] bodyc9 = Code.at' [1, 1, 0, 1, 0] bodyc9 := by kernel_rfl
    rw [e]; exact okc9_0

theorem entc9 : EntOk Try.prog 9 (funEntL Sc9 true Fc9) := fun_okL (fn := Try.f9) (c := bodyc9) (by kernel_rfl) (by kernel_rfl) (by kernel_rfl) (by kernel_rfl) callsc9
noncomputable def Ec9 : List (Nat × Ent) := (9, (funEntL Sc9 true Fc9)) :: Ec15
theorem Ec9_ok : EntsOk Try.prog (ofL Ec9) := .cons entc9 Ec15_ok

/-! ### barbican/barbicanref01.Same -/
noncomputable def bodyc10 : Code := (Try.f10.body).getD .skip
abbrev Sc10 : FL := ⟨⟨[], [.env 0 (.c (.fz (.int .u8))), .env 1 (.c (.fz (.int .u8)))], []⟩, 2, [(.ret, ⟨[], [.env 0 (.c (.bool))], []⟩)], [.tmp 4], false⟩
noncomputable def cc10 : Ctx Try.prog := ⟨ctab, ofL Ec9, ctabOk, Ec9_ok, cdep, cord⟩
abbrev lc10_0 : Lay := ⟨[], [.env 0 (.c (.fz (.int .u8))), .env 1 (.c (.fz (.int .u8))), .env 5 (.c (.int .i64))], []⟩
abbrev oc10_0 : List (AExit × Lay) := [(.ret, ⟨[], [.env 4 (.c (.bool))], []⟩), (.exit 0, ⟨[], [], []⟩)]
noncomputable def stepc10_0 : (List Int) × (List Int) × Int → Option (((List Int) × (List Int) × Int) ⊕ ((Bool) ⊕ (Unit)))
  | (t0, t1, t5) =>
  if (decide (t5 < (t0.length : Int))) = true then
   if (0 : Int) ≤ t5 ∧ t5 < (t0.length : Int) then
    if (0 : Int) ≤ t5 ∧ t5 < (t1.length : Int) then
     if ((t0.getD t5.toNat 0) != (t1.getD t5.toNat 0)) = true then
      some (.inr (.inl false))
     else
      some (.inl (t0, t1, (IntKind.i64.wrap (t5 + 1))))
    else none
   else none
  else
   some (.inr (.inr ()))

noncomputable def annc10_0 : Ann := .none
noncomputable def Fc10 : (List Int) × (List Int) → Option ((Bool))
  | (a0, a1) =>
  if ((a0.length : Int) != (a1.length : Int)) = true then
   some false
  else
   (loopO stepc10_0 (a0, a1, 0)).bind fun
    | (.inl z1) =>
     some z1
    | (.inr _) =>
     some true

noncomputable def annc10 : Ann := (.seq .none (.seq .none (.seq (.seq .none (.seq (.cut (cutEnt lc10_0 oc10_0 (loopO (stepc10_0)))) .none)) .none)))
theorem eqc10_0 : ∀ s : lc10_0.T, exec ctab (ofL Ec9) 26 (Code.at' [1, 1, 0, 1, 0, 0] bodyc10) annc10_0 (fun e st => loopEnd (l := lc10_0) (outs := oc10_0) e st) (lc10_0.enc s) = stepc10_0 s := by
  rintro ⟨t0, t1, t5⟩
  kernel_rfl
theorem okc10_0 : LOk Try.prog 26 (cutEnt lc10_0 oc10_0 (loopO stepc10_0)) (Code.at' [1, 1, 0, 1, 0] bodyc10) := by
  have e : Code.at' [1, 1, 0, 1, 0] bodyc10 = .loop (Code.at' [1, 1, 0, 1, 0, 0] bodyc10) := by kernel_rfl
  rw [e]
  refine loop_ok cc10 26 rfl rfl (annOk_of_cuts ?_) eqc10_0
  intro x hx
  exact absurd hx (by show x ∉ ([] : List (List Nat × LEnt)); simp)

theorem eqc10 : ∀ x : Sc10.inT, exec ctab (ofL Ec9) 26 bodyc10 annc10 (finL ctab Sc10) (Sc10.inp.enc x) = Fc10 x := by
  rintro ⟨a0, a1⟩
  kernel_rfl
theorem callsc10 : CallsL Try.prog 10 Sc10 Fc10 := by
  refine fun_callsL (fn := Try.f10) (c := bodyc10) (ann := annc10) cc10 (by kernel_rfl) (by kernel_rfl) (by kernel_rfl) (by kernel_rfl) (by kernel_rfl) (annOk_of_cuts ?_) eqc10
  have hc : Ann.cuts annc10 = [([1, 1, 0, 1, 0], (cutEnt lc10_0 oc10_0 (loopO (stepc10_0))))] := by kernel_rfl
  rw [hc]
  intro x hx
  simp only [List.mem_cons, List.not_mem_nil, or_false] at hx
  rcases hx with rfl
  · have e : Code.at' [1, 1, 0, 1, 0] bodyc10 = Code.at' [1, 1, 0, 1, 0] bodyc10 := by kernel_rfl
    rw [e]; exact okc10_0

theorem entc10 : EntOk Try.prog 10 (funEntL Sc10 true Fc10) := fun_okL (fn := Try.f10) (c := bodyc10) (by kernel_rfl) (by kernel_rfl) (by kernel_rfl) (by kernel_rfl) callsc10
noncomputable def Ec10 : List (Nat × Ent) := (10, (funEntL Sc10 true Fc10)) :: Ec9
theorem Ec10_ok : EntsOk Try.prog (ofL Ec10) := .cons entc10 Ec9_ok

/-! ### barbican/barbicanlaw13.alive -/
noncomputable def bodyc12 : Code := (Try.f12.body).getD .skip
abbrev Sc12 : FL := ⟨⟨[], [], []⟩, 0, [(.ret, ⟨[], [.env 0 (.c (.bool))], []⟩)], [.tmp 0], false⟩
noncomputable def cc12 : Ctx Try.prog := ⟨ctab, ofL Ec10, ctabOk, Ec10_ok, cdep, cord⟩
noncomputable def Fc12 : Unit → Option ((Bool))
  | _ =>
  if 0 ≤ (2017 : Int) ∧ (2017 : Int) ≤ 2017 ∧ okBytes 2017 1 then
   if 0 ≤ (3373 : Int) ∧ (3373 : Int) ≤ 3373 ∧ okBytes 3373 1 then
    (Fc16 (1, cstr3, cstr4, (List.replicate 2017 (0 : Int)), ([] : List (Int × (Bool × (List Int)))), (List.replicate 3373 (0 : Int)))).bind fun (y1, y2) =>
     (Fc8 y1).bind fun (y3, y4, y5) =>
      (Fc8 (((List.replicate 2 (0 : Int)).set 0 48).set 1 0)).bind fun (y6, y7, y8) =>
       if (y2 == 0) = true then
        if (y5 == 0) = true then
         if (y3.2.2.1.toList == cstr4.toList) = true then
          some (y8 == 131)
         else
          some false
        else
         some false
       else
        some false
   else none
  else none

noncomputable def annc12 : Ann := .none
theorem eqc12 : ∀ x : Sc12.inT, exec ctab (ofL Ec10) 45 bodyc12 annc12 (finL ctab Sc12) (Sc12.inp.enc x) = Fc12 x := by
  intro x
  kernel_rfl
theorem callsc12 : CallsL Try.prog 12 Sc12 Fc12 := by
  refine fun_callsL (fn := Try.f12) (c := bodyc12) (ann := annc12) cc12 (by kernel_rfl) (by kernel_rfl) (by kernel_rfl) (by kernel_rfl) (by kernel_rfl) (annOk_of_cuts ?_) eqc12
  intro x hx
  exact absurd hx (by show x ∉ ([] : List (List Nat × LEnt)); simp)

theorem entc12 : EntOk Try.prog 12 (funEntL Sc12 true Fc12) := fun_okL (fn := Try.f12) (c := bodyc12) (by kernel_rfl) (by kernel_rfl) (by kernel_rfl) (by kernel_rfl) callsc12
noncomputable def Ec12 : List (Nat × Ent) := (12, (funEntL Sc12 true Fc12)) :: Ec10
theorem Ec12_ok : EntsOk Try.prog (ofL Ec12) := .cons entc12 Ec10_ok

/-! ### barbican/cert.Parse -/
/-! ### the closure 40, by hand -/
noncomputable def bodyc40b : Code := (Try.f40.body).getD .skip
noncomputable def oac40b : Array Oper := opsOf (Code.at' [0] bodyc40b)
noncomputable def obc40b : Array Oper := opsOf (Code.at' [1, 0] bodyc40b)
noncomputable def occ40b : Array Oper := opsOf (Code.at' [1, 1, 0, 0] bodyc40b)
theorem atc40b : bodyc40b = .seq (.region 0 oac40b false) (.seq (.region 1 obc40b false) (.cond (.tmp 8) (.seq (.region 2 occ40b false) (Code.at' [1, 1, 0, 1] bodyc40b)) .skip)) := by kernel_rfl
abbrev Sc40b : FL := ⟨⟨[(0, .ptr 1000000 0 6), (1, .ptr 1000001 0 1), (2, .ptr 1000002 0 1)], [.reg 1000000 (.cells [.int .u64, .str, .str, .fz (.int .u8), .fz (.pair (.int .i64) (.pair .bool (.sl (.int .u8)))), .full 1000003]), .reg 1000001 (.cells [.fz (.int .u8)]), .reg 1000002 (.cells [.int .i64]), .reg 1000003 (.row 5 .u8)], [(1000000, .env 0 0), (1000001, .env 1 0), (1000002, .env 2 0), (1000003, .reg 1000000 5)]⟩, 3, [(.ret, ⟨[], [.reg 1000000 (.cells [.int .u64, .str, .str, .fz (.int .u8), .fz (.pair (.int .i64) (.pair .bool (.sl (.int .u8)))), .full 1]), .reg 1000001 (.cells [.fz (.int .u8)]), .reg 1000002 (.cells [.int .i64]), .reg 1 (.row 5 .u8)], [(1, .reg 1000000 5)]⟩)], [], true⟩
noncomputable def cc40b : Ctx Try.prog := ⟨ctab, ofL cE0, ctabOk, cE0_ok, cdep, cord⟩
noncomputable def FRc40b : (Int × ByteArray × ByteArray × List Int × List (Int × Bool × List Int) × Unit) × List Int × Int × List Int → Option ((Int × ByteArray × ByteArray × List Int × List (Int × Bool × List Int) × Unit) × List Int × Int × List Int) := fun x => some x
noncomputable def FPc40b (n : Int) : (Int × ByteArray × ByteArray × List Int × List (Int × Bool × List Int) × Unit) × List Int × Int × List Int → Option ((Int × ByteArray × ByteArray × List Int × List (Int × Bool × List Int) × Unit) × List Int × Int × List Int) := fun _ => some ((0, ByteArray.empty, ByteArray.empty, [], [], ()), [], n, [])
noncomputable def stc40b (n : Int) (x : Sc40b.inT) : St := { env := upd (upd (Sc40b.inp.enc x).env 12 (some (.agg [.int .i64 n]))) 13 (some (.c (.bool true))), heap := (Sc40b.inp.enc x).heap }
theorem exRc40b : ∀ x, exec ctab (ofL cE0) 20 .skip .none (finL ctab Sc40b) (Sc40b.inp.enc x) = FRc40b x := by
  intro x
  kernel_rfl
theorem exPc40b (n : Int) : ∀ x, execOps ctab (ofL cE0) 20 occ40b ((List.range' 5 3).map (opAt occ40b)) (stc40b n x) [] (fun st' _ => exec ctab (ofL cE0) 20 (Code.at' [1, 1, 0, 1] bodyc40b) .none (finL ctab Sc40b) st') (fun _ _ _ _ _ => none) = FPc40b n x := by
  intro x
  kernel_rfl
theorem restRc40b (us : List Value) (x : Sc40b.inT) (y : Sc40b.outT) (w : World) (fp : FP) (β : Nat → Value) (hlen : us.length = Sc40b.n) (hdfs : fp.dfs = []) (hF : FRc40b x = some y) (R : Rel Try.prog w fp us.length β (Sc40b.inp.enc x) { tmps := us.toArray, defers := [] } w) :
    (Code.seq (.region 1 obc40b false) (.cond (.tmp 8) (.seq (.region 2 occ40b false) (Code.at' [1, 1, 0, 1] bodyc40b)) .skip)).wp Try.prog (bodyPost Try.prog Try.f40 (EndL Try.prog Sc40b fp w y)) (act2 Try.f40.ntmps 6 3 us .nilIface) w := by
  have nn : Try.f40.ntmps = 20 := by kernel_rfl
  obtain ⟨anc, hb, dfs⟩ := fp
  have hdfs : dfs = [] := hdfs
  subst hdfs
  match us, hlen with
  | [p0, p1, p2], _ =>
  rw [nn]
  have e0 : (opAt obc40b 0).dst = some 7 := by kernel_rfl
  have e1 : (opAt obc40b 1).dst = some 8 := by kernel_rfl
  have r1 : List.range obc40b.size = [0, 1] := by kernel_rfl
  refine wp_seq (wp_region ?_)
  rw [r1]
  refine wpOps_val (o := opAt obc40b 0) (v := .nilIface) (w' := w) (by kernel_rfl) (by kernel_rfl) (by kernel_rfl) ?_
  refine wpOps_val (o := opAt obc40b 1) (v := .bool false) (w' := w) (by kernel_rfl) (by kernel_rfl) (by kernel_rfl) ?_
  rw [e0, e1]
  refine wp_cond_false (by kernel_rfl) ?_
  refine rest_callsL cc40b (fn := Try.f40) (S := Sc40b) (c := .skip) (ann := .none) (y := y) (w := w) (w1 := w) (st := Sc40b.inp.enc x) (β := β) (fp := ⟨anc, hb, []⟩) (by kernel_rfl) (by kernel_rfl) (by kernel_rfl) noCuts rfl ((exRc40b x).trans hF) ?_
  refine R.act rfl (by kernel_rfl) (by decide) (fun t av ht => ?_)
  have h1 := R.env t av ht
  match t with
  | 0 => exact avEq h1 (by kernel_rfl)
  | 1 => exact avEq h1 (by kernel_rfl)
  | 2 => exact avEq h1 (by kernel_rfl)
  | t + 3 => cases ht
theorem restPc40b (n : Int) (us : List Value) (x : Sc40b.inT) (y : Sc40b.outT) (w : World) (fp : FP) (β : Nat → Value) (hlen : us.length = Sc40b.n) (hdfs : fp.dfs = []) (hF : FPc40b n x = some y) (R : Rel Try.prog w fp us.length β (Sc40b.inp.enc x) { tmps := us.toArray, defers := [] } w) :
    (Code.seq (.region 1 obc40b false) (.cond (.tmp 8) (.seq (.region 2 occ40b false) (Code.at' [1, 1, 0, 1] bodyc40b)) .skip)).wp Try.prog (bodyPost Try.prog Try.f40 (EndL Try.prog Sc40b fp w y)) (act2 Try.f40.ntmps 6 3 us (.iface 75 (.agg #[.int .i64 n]))) w := by
  have nn : Try.f40.ntmps = 20 := by kernel_rfl
  obtain ⟨anc, hb, dfs⟩ := fp
  have hdfs : dfs = [] := hdfs
  subst hdfs
  match us, hlen with
  | [p0, p1, p2], _ =>
  rw [nn]
  have e0 : (opAt obc40b 0).dst = some 7 := by kernel_rfl
  have e1 : (opAt obc40b 1).dst = some 8 := by kernel_rfl
  have d0 : (opAt occ40b 0).dst = some 10 := by kernel_rfl
  have d1 : (opAt occ40b 1).dst = some 11 := by kernel_rfl
  have d2 : (opAt occ40b 2).dst = some 9 := by kernel_rfl
  have d3 : (opAt occ40b 3).dst = some 12 := by kernel_rfl
  have d4 : (opAt occ40b 4).dst = some 13 := by kernel_rfl
  have r1 : List.range obc40b.size = [0, 1] := by kernel_rfl
  have r2 : List.range occ40b.size = 0 :: 1 :: 2 :: 3 :: 4 :: (List.range' 5 3 ++ []) := by kernel_rfl
  refine wp_seq (wp_region ?_)
  rw [r1]
  refine wpOps_val (o := opAt obc40b 0) (v := .iface 75 (.agg #[.int .i64 n])) (w' := w) (by kernel_rfl) (by kernel_rfl) (by kernel_rfl) ?_
  refine wpOps_val (o := opAt obc40b 1) (v := .bool true) (w' := w) (by kernel_rfl) (by kernel_rfl) (by kernel_rfl) ?_
  rw [e0, e1]
  refine wp_cond_true (by kernel_rfl) (wp_seq (wp_region ?_))
  rw [r2]
  refine wpOps_val (o := opAt occ40b 0) (v := .iface 75 (.agg #[.int .i64 n])) (w' := w) (by kernel_rfl) (by kernel_rfl) (by kernel_rfl) ?_
  refine wpOps_val (o := opAt occ40b 1) (v := .tuple #[.agg #[.int .i64 n], .bool true]) (w' := w) (by kernel_rfl) (by kernel_rfl) (by kernel_rfl) ?_
  refine wpOps_val (o := opAt occ40b 2) (v := .tuple #[.agg #[.int .i64 n], .bool true]) (w' := w) (by kernel_rfl) (by kernel_rfl) (by kernel_rfl) ?_
  refine wpOps_val (o := opAt occ40b 3) (v := .agg #[.int .i64 n]) (w' := w) (by kernel_rfl) (by kernel_rfl) (by kernel_rfl) ?_
  refine wpOps_val (o := opAt occ40b 4) (v := .bool true) (w' := w) (by kernel_rfl) (by kernel_rfl) (by kernel_rfl) ?_
  rw [d0, d1, d2, d3, d4]
  have e := exPc40b n x
  rw [hF] at e
  have hall := opAt_all (ops := occ40b) (i := 5) (k := 3) (by kernel_rfl)
  refine ops_sound cc40b (i := 5) (ops := (List.range' 5 3).map (opAt occ40b)) (w0 := w) (fp := ⟨anc, hb, []⟩) e hall ⟨β, ?_⟩ ?_ ?_
  · refine R.act rfl (by kernel_rfl) (by decide) (fun t av ht => ?_)
    by_cases h13 : t = 13
    · subst h13
      have ht : some (AV.c (.bool true)) = some av := ht
      cases ht
      exact avBool (by kernel_rfl)
    · by_cases h12 : t = 12
      · subst h12
        have ht : some (AV.agg [.int .i64 n]) = some av := ht
        cases ht
        exact avNum (by kernel_rfl)
      · have ht : upd (upd (Sc40b.inp.enc x).env 12 (some (.agg [.int .i64 n]))) 13 (some (.c (.bool true))) t = some av := ht
        rw [upd_ne _ _ h13, upd_ne _ _ h12] at ht
        have h1 := R.env t av ht
        match t with
        | 0 => exact avEq h1 (by kernel_rfl)
        | 1 => exact avEq h1 (by kernel_rfl)
        | 2 => exact avEq h1 (by kernel_rfl)
        | t + 3 => cases ht
  · rintro st' _ a w' h1 ⟨β', R'⟩
    exact wpOps_end (rest_callsL cc40b (fn := Try.f40) (S := Sc40b) (c := Code.at' [1, 1, 0, 1] bodyc40b) (ann := .none) (y := y) (w := w) (w1 := w') (st := st') (a := a) (β := β') (fp := ⟨anc, hb, []⟩) (by kernel_rfl) (by kernel_rfl) (by kernel_rfl) noCuts rfl h1 R')
  · intro t m st' rest _ a w' h1
    cases h1
theorem cloc40b {u u' : FrameMode} {v : Value} (hu : Recovers u u' v) {F : Sc40b.inT → Option Sc40b.outT} (hrest : ∀ (us : List Value) (x : Sc40b.inT) (y : Sc40b.outT) (w : World) (fp : FP) (β : Nat → Value), us.length = Sc40b.n → fp.dfs = [] → F x = some y → Rel Try.prog w fp us.length β (Sc40b.inp.enc x) { tmps := us.toArray, defers := [] } w →
      (Code.seq (.region 1 obc40b false) (.cond (.tmp 8) (.seq (.region 2 occ40b false) (Code.at' [1, 1, 0, 1] bodyc40b)) .skip)).wp Try.prog (bodyPost Try.prog Try.f40 (EndL Try.prog Sc40b fp w y)) (act2 Try.f40.ntmps 6 3 us v) w) : CallsDL Try.prog 40 Sc40b u u' F :=
  clo_callsDL2 (fn := Try.f40) (id := 0) (ops := oac40b) (t0 := 6) (t1 := 3) (v := v) (o0 := opAt oac40b 0) (o1 := opAt oac40b 1) (by kernel_rfl) (by kernel_rfl) (by kernel_rfl) (by kernel_rfl) (by kernel_rfl) (by kernel_rfl) (by kernel_rfl) (by kernel_rfl) (by kernel_rfl) (by kernel_rfl) (fun a w => by kernel_rfl) (fun a w => by kernel_rfl) hu hrest
theorem okc40b : CloOk Try.prog 40 Sc40b 75 FRc40b FPc40b := ⟨cloc40b (.inl ⟨rfl, rfl, rfl⟩) restRc40b, fun n => cloc40b (.inr ⟨rfl, rfl⟩) (restPc40b n)⟩

abbrev Sc8b : FL := ⟨⟨[], [.env 0 (.c (.fz (.int .u8)))], []⟩, 1, [(.ret, ⟨[], [.env 0 (.agg [.int .u64, .str, .str, .fz (.int .u8), .fz (.pair (.int .i64) (.pair .bool (.sl (.int .u8)))), .full 1]), .env 1 (.c (.fz (.int .u8))), .env 2 (.c (.int .i64)), .reg 1 (.row 5 .u8)], [(1, .env 0 5)]⟩)], [.cell 2 26, .cell 3 22, .cell 4 27], true⟩
noncomputable def bodyc8b : Code := (Try.f8.body).getD .skip
noncomputable def oac8b : Array Oper := opsOf (Code.at' [1, 0] bodyc8b)
theorem atc8b : bodyc8b = .seq (Code.at' [0] bodyc8b) (.seq (.region 1 oac8b false) (Code.at' [1, 1] bodyc8b)) := by kernel_rfl
abbrev SMc8b : FL := ⟨⟨[(2, .ptr 1000000 0 6), (3, .ptr 1000001 0 1), (4, .ptr 1000002 0 1)], [.env 0 (.c (.fz (.int .u8))), .reg 1000000 (.cells [.int .u64, .str, .str, .fz (.int .u8), .fz (.pair (.int .i64) (.pair .bool (.sl (.int .u8)))), .full 1000003]), .reg 1000001 (.cells [.fz (.int .u8)]), .reg 1000002 (.cells [.int .i64]), .reg 1000003 (.row 5 .u8)], [(1000000, .env 2 0), (1000001, .env 3 0), (1000002, .env 4 0), (1000003, .reg 1000000 5)]⟩, 5, [(.ret, ⟨[], [.env 0 (.agg [.int .u64, .str, .str, .fz (.int .u8), .fz (.pair (.int .i64) (.pair .bool (.sl (.int .u8)))), .full 1]), .env 1 (.c (.fz (.int .u8))), .env 2 (.c (.int .i64)), .reg 1 (.row 5 .u8)], [(1, .env 0 5)]⟩)], [.cell 2 26, .cell 3 22, .cell 4 27], true⟩
noncomputable def cc8b : Ctx Try.prog := ⟨ctab, ofL Ec12, ctabOk, Ec12_ok, cdep, cord⟩
noncomputable def FMc8b : List Int × (Int × ByteArray × ByteArray × List Int × List (Int × Bool × List Int) × Unit) × List Int × Int × List Int → Option ((Int × ByteArray × ByteArray × List Int × List (Int × Bool × List Int) × Unit) × List Int × Int × List Int) := fun (b, c, s, e, r) =>
    (Fc41 b).bind fun (y1, y2) =>
      if (y2 != 0) = true then (FRc40b ((0, ByteArray.empty, ByteArray.empty, [], [], ()), [], y2, [])).bind fun (c', s', e', r') => some (c', s', e', r')
      else (Fc42 (Tree.node y1.tag y1.body y1.kids)).bind fun
        | .inl (e3, _) => (FPc40b e3 (c, s, y2, r)).bind fun (c', s', e', r') => some (c', s', e', r')
        | .inr (y4, y5, y6, y7) =>
          (Fc43 (y4.1, (y4.2.1, (y4.2.2.1, (y5, (y6, y7)))))).bind fun y8 =>
            if (y8 == 134) = false then
              if ((y7.length : Int) != 3373) = true then (Fc44 134).bind fun (e9, _) => (FPc40b e9 ((y4.1, y4.2.1, y4.2.2.1, y5, y6, ()), s, y2, y7)).bind fun (c', s', e', r') => some (c', s', e', r')
              else
                if (y8 != 0) = true then (Fc44 y8).bind fun (e10, _) => (FPc40b e10 ((y4.1, y4.2.1, y4.2.2.1, y5, y6, ()), s, y2, y7)).bind fun (c', s', e', r') => some (c', s', e', r')
                else
                  if (0 : Int) ≤ (0 : Int) ∧ (0 : Int) < (y1.kids.length : Int) then
                    (Fc45 (Tree.node (y1.kids.getD 0 (DT.dflt .item)).tag (y1.kids.getD 0 (DT.dflt .item)).body (y1.kids.getD 0 (DT.dflt .item)).kids)).bind fun (y11, y12) => (FRc40b ((y4.1, y4.2.1, y4.2.2.1, y5, y6, ()), y11, 0, y7)).bind fun (c', s', e', r') => some (c', s', e', r')
                  else none
            else (Fc44 134).bind fun (e13, _) => (FPc40b e13 ((y4.1, y4.2.1, y4.2.2.1, y5, y6, ()), s, y2, y7)).bind fun (c', s', e', r') => some (c', s', e', r')
noncomputable def Fc8b : List Int → Option ((Int × ByteArray × ByteArray × List Int × List (Int × Bool × List Int) × Unit) × List Int × Int × List Int) := fun (b : List Int) => (FMc8b (b, (0, ByteArray.empty, ByteArray.empty, [], [], ()), [], 0, [])).bind fun (c, s, e, r) => some (c, s, e, r)
theorem eqMc8b : ∀ x, exec ctab (ofL Ec12) 43 (Code.at' [1, 1] bodyc8b) .none (finD ctab SMc8b [2, 3, 4] (SMc8b.inp.enc x) (funEntL Sc40b false FRc40b) 75 (fun n => funEntL Sc40b false (FPc40b n))) (SMc8b.inp.enc x) = FMc8b x := by
  rintro ⟨b, c, s, e, r⟩
  kernel_rfl
theorem eqc8b : ∀ x, deferF ctab (ofL Ec12) 43 (Code.at' [0] bodyc8b) .none Sc8b SMc8b [0, 2, 3, 4] 7 FMc8b x = Fc8b x := by
  intro b
  kernel_rfl
theorem callsc8b : CallsL Try.prog 8 Sc8b Fc8b :=
  defer_callsL cc8b (fn := Try.f8) (fnc := Try.f40) (A := Code.at' [0] bodyc8b) (rest := Code.at' [1, 1] bodyc8b) (id := 1) (ops := oac8b) (cc := bodyc40b) (o0 := opAt oac8b 0) (o1 := opAt oac8b 1) (tc := 7) (pt := 75) (cs := [2, 3, 4]) (kn := [0, 2, 3, 4]) (SM := SMc8b) (SC := Sc40b) (annA := .none) (ann := .none) (FR := FRc40b) (FPn := FPc40b) (FM := FMc8b)
    (by kernel_rfl) (by kernel_rfl) (by kernel_rfl) (by kernel_rfl) (by kernel_rfl) (by kernel_rfl) (by kernel_rfl) (by kernel_rfl) (by kernel_rfl) (by kernel_rfl)
    (fun a w => by kernel_rfl) (fun a w vs h => defer_run (o := opAt oac8b 1) (ats := #[]) (by kernel_rfl) h)
    (by kernel_rfl) (by kernel_rfl) (by kernel_rfl) (by kernel_rfl) okc40b (by kernel_rfl) (by kernel_rfl) (by kernel_rfl) (by kernel_rfl) (by kernel_rfl) (by kernel_rfl) (by kernel_rfl)
    noCuts noCuts eqMc8b eqc8b
theorem entc8b : EntOk Try.prog 8 (funEntL Sc8b true Fc8b) := fun_okL (fn := Try.f8) (c := bodyc8b) (by kernel_rfl) (by kernel_rfl) (by kernel_rfl) (by kernel_rfl) callsc8b

noncomputable def Ec8b : List (Nat × Ent) := (8, funEntL Sc8b true Fc8b) :: Ec12
theorem Ec8b_ok : EntsOk Try.prog (ofL Ec8b) := .cons entc8b Ec12_ok

/-! ### barbican/barbicanlaw13.CertBack -/
noncomputable def bodyc5 : Code := (Try.f5.body).getD .skip
abbrev Sc5 : FL := ⟨⟨[], [.env 0 (.agg [.int .u64, .str, .str, .fz (.int .u8), .fz (.pair (.int .i64) (.pair .bool (.sl (.int .u8)))), .fz (.int .u8), .bool, .fz (.int .u8), .fz (.int .u8)]), .env 1 (.c (.fz (.int .u8)))], []⟩, 2, [(.ret, ⟨[], [.env 0 (.c (.bool))], []⟩)], [.tmp 4], false⟩
noncomputable def cc5 : Ctx Try.prog := ⟨ctab, ofL Ec8b, ctabOk, Ec8b_ok, cdep, cord⟩
noncomputable def Fc5 : (Int × ByteArray × ByteArray × (List Int) × (List (Int × (Bool × (List Int)))) × (List Int) × Bool × (List Int) × (List Int)) × (List Int) → Option ((Bool))
  | (a0, a1) =>
  (Fc13 (a0.1, a0.2.1, a0.2.2.1, a0.2.2.2.1, a0.2.2.2.2.1, a0.2.2.2.2.2.1, a0.2.2.2.2.2.2.1, a0.2.2.2.2.2.2.2.1, a0.2.2.2.2.2.2.2.2)).bind fun y1 =>
   (Fc16 (y1.1, y1.2.1, y1.2.2.1, y1.2.2.2.1, y1.2.2.2.2.1, y1.2.2.2.2.2)).bind fun (y2, y3) =>
    if (y3 == 0) = true then
     (Fc8b y2).bind fun (y4, y5, y6, y7) =>
      (Fc15 (y1.1, y1.2.1, y1.2.2.1, y1.2.2.2.1, y1.2.2.2.2.1, y1.2.2.2.2.2)).bind fun (y8, y9) =>
       (Fc9 ((y4.1, y4.2.1, y4.2.2.1, y4.2.2.2.1, y4.2.2.2.2.1, y7), (y1.1, y1.2.1, y1.2.2.1, y1.2.2.2.1, y1.2.2.2.2.1, y1.2.2.2.2.2))).bind fun y10 =>
        (Fc10 (y5, y8)).bind fun y11 =>
         if (y6 != 0) = false then
          if (y9 != 0) = false then
           if (!y10) = false then
            if (!y11) = true then
             some false
            else
             if (0 : Int) ≤ (0 : Int) ∧ (0 : Int) < (y7.length : Int) then
              if (0 : Int) ≤ (0 : Int) ∧ (0 : Int) < (y7.length : Int) then
               (Fc15 (y4.1, y4.2.1, y4.2.2.1, y4.2.2.2.1, y4.2.2.2.2.1, (y7.set 0 (bitsXor .u8 (y7.getD 0 0) 1)))).bind fun (y12, y13) =>
                (Fc10 (y12, y8)).bind fun y14 =>
                 if (y13 != 0) = false then
                  if (!y14) = true then
                   some false
                  else
                   (Fc8b a1).bind fun (y15, y16, y17, y18) =>
                    if (y17 != 0) = true then
                     (Fc12 ()).bind fun y19 =>
                      some y19
                    else
                     (Fc16 (y15.1, y15.2.1, y15.2.2.1, y15.2.2.2.1, y15.2.2.2.2.1, y18)).bind fun (y20, y21) =>
                      (Fc12 ()).bind fun y22 =>
                       if y22 = true then
                        if (y21 == 0) = true then
                         (Fc10 (y20, a1)).bind fun y23 =>
                          some y23
                        else
                         some false
                       else
                        some false
                 else
                  some false
              else none
             else none
           else
            some false
          else
           some false
         else
          some false
    else
     (Fc8b a1).bind fun (y24, y25, y26, y27) =>
      if (y26 != 0) = true then
       (Fc12 ()).bind fun y28 =>
        some y28
      else
       (Fc16 (y24.1, y24.2.1, y24.2.2.1, y24.2.2.2.1, y24.2.2.2.2.1, y27)).bind fun (y29, y30) =>
        (Fc12 ()).bind fun y31 =>
         if y31 = true then
          if (y30 == 0) = true then
           (Fc10 (y29, a1)).bind fun y32 =>
            some y32
          else
           some false
         else
          some false

noncomputable def annc5 : Ann := .none
theorem eqc5 : ∀ x : Sc5.inT, exec ctab (ofL Ec8b) 109 bodyc5 annc5 (finL ctab Sc5) (Sc5.inp.enc x) = Fc5 x := by
  rintro ⟨a0, a1⟩
  kernel_rfl
theorem callsc5 : CallsL Try.prog 5 Sc5 Fc5 := by
  refine fun_callsL (fn := Try.f5) (c := bodyc5) (ann := annc5) cc5 (by kernel_rfl) (by kernel_rfl) (by kernel_rfl) (by kernel_rfl) (by kernel_rfl) (annOk_of_cuts ?_) eqc5
  intro x hx
  exact absurd hx (by show x ∉ ([] : List (List Nat × LEnt)); simp)

theorem entc5 : EntOk Try.prog 5 (funEntL Sc5 true Fc5) := fun_okL (fn := Try.f5) (c := bodyc5) (by kernel_rfl) (by kernel_rfl) (by kernel_rfl) (by kernel_rfl) callsc5
noncomputable def Ec5 : List (Nat × Ent) := (5, (funEntL Sc5 true Fc5)) :: Ec8b
theorem Ec5_ok : EntsOk Try.prog (ofL Ec5) := .cons entc5 Ec8b_ok
end Go.Abs
