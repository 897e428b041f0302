import Derived.Test.YtkkamfhppokooaaCText1L
import Derived.Test.YtkkamfhppokooaaAbsDef4L
import Derived.Test.YtkkamfhppokooaaChecked
import Derived.KernelRfl
set_option linter.unusedVariables false
set_option linter.unusedSimpArgs false
set_option maxRecDepth 100000
open Go.Proofs
namespace Go.Abs
/-! ### barbican/cert.form -/
noncomputable def bodyc71 : Code := (Try.f71.body).getD .skip
abbrev Sc71 : FL := ⟨⟨[], [.env 0 (.c (.bool))], []⟩, 1, [(.panic 75 0, ⟨[], [], []⟩), (.ret, ⟨[], [], []⟩)], [], false⟩
noncomputable def cc71 : Ctx Try.prog := ⟨ctab, ofL Ec44, ctabOk, Ec44_ok, cdep, cord⟩
noncomputable def Fc71 : Bool → Option ((Int × (Unit)) ⊕ (Unit))
  | a0 =>
  if (!a0) = true then
   (Fc44 131).bind fun (e1, _) =>
    some (.inl (e1, ()))
  else
   some (.inr ())

noncomputable def annc71 : Ann := .none
theorem eqc71 : ∀ x : Sc71.inT, exec ctab (ofL Ec44) 5 bodyc71 annc71 (finL ctab Sc71) (Sc71.inp.enc x) = Fc71 x := by
  intro x
  kernel_rfl
theorem callsc71 : CallsL Try.prog 71 Sc71 Fc71 := by
  refine fun_callsL (fn := Try.f71) (c := bodyc71) (ann := annc71) cc71 (by kernel_rfl) (by kernel_rfl) (by kernel_rfl) (by kernel_rfl) (by kernel_rfl) (annOk_of_cuts ?_) eqc71
  intro x hx
  exact absurd hx (by show x ∉ ([] : List (List Nat × LEnt)); simp)

theorem entc71 : EntOk Try.prog 71 (funEntL Sc71 true Fc71) := fun_okL (fn := Try.f71) (c := bodyc71) (by kernel_rfl) (by kernel_rfl) (by kernel_rfl) (by kernel_rfl) callsc71
noncomputable def Ec71 : List (Nat × Ent) := (71, (funEntL Sc71 true Fc71)) :: Ec44
theorem Ec71_ok : EntsOk Try.prog (ofL Ec71) := .cons entc71 Ec44_ok

/-! ### barbican/cert.kids -/
noncomputable def bodyc70 : Code := (Try.f70.body).getD .skip
abbrev Sc70 : FL := ⟨⟨[], [.env 0 (.dat .item), .env 1 (.c (.int .u8)), .env 2 (.c (.int .i64))], []⟩, 3, [(.panic 75 0, ⟨[], [], []⟩), (.ret, ⟨[], [.env 0 (.c (.fz .item))], []⟩)], [.tmp 6], true⟩
noncomputable def cc70 : Ctx Try.prog := ⟨ctab, ofL Ec71, ctabOk, Ec71_ok, cdep, cord⟩
noncomputable def Fc70 : Tree × Int × Int → Option ((Int × (Unit)) ⊕ ((List Tree)))
  | (a0, a1, a2) =>
  if (a0.tag == a1) = true then
   (Fc71 ((a0.kids.length : Int) == a2)).bind fun
    | (.inl (e1, _)) =>
     some (.inl (e1, ()))
    | (.inr _) =>
     some (.inr a0.kids)
  else
   (Fc71 false).bind fun
    | (.inl (e2, _)) =>
     some (.inl (e2, ()))
    | (.inr _) =>
     some (.inr a0.kids)

noncomputable def annc70 : Ann := .none
theorem eqc70 : ∀ x : Sc70.inT, exec ctab (ofL Ec71) 21 bodyc70 annc70 (finL ctab Sc70) (Sc70.inp.enc x) = Fc70 x := by
  rintro ⟨a0, a1, a2⟩
  kernel_rfl
theorem callsc70 : CallsL Try.prog 70 Sc70 Fc70 := by
  refine fun_callsL (fn := Try.f70) (c := bodyc70) (ann := annc70) cc70 (by kernel_rfl) (by kernel_rfl) (by kernel_rfl) (by kernel_rfl) (by kernel_rfl) (annOk_of_cuts ?_) eqc70
  intro x hx
  exact absurd hx (by show x ∉ ([] : List (List Nat × LEnt)); simp)

theorem entc70 : EntOk Try.prog 70 (funEntL Sc70 true Fc70) := fun_okL (fn := Try.f70) (c := bodyc70) (by kernel_rfl) (by kernel_rfl) (by kernel_rfl) (by kernel_rfl) callsc70
noncomputable def Ec70 : List (Nat × Ent) := (70, (funEntL Sc70 true Fc70)) :: Ec71
theorem Ec70_ok : EntsOk Try.prog (ofL Ec70) := .cons entc70 Ec71_ok

/-! ### barbican/der.plain -/
noncomputable def bodyc88 : Code := (Try.f88.body).getD .skip
abbrev Sc88 : FL := ⟨⟨[], [.env 0 (.c (.fzp .item)), .env 1 (.c (.int .u8))], []⟩, 2, [(.ret, ⟨[], [.env 0 (.c (.int .i64))], []⟩)], [.tmp 4], false⟩
noncomputable def cc88 : Ctx Try.prog := ⟨ctab, ofL Ec70, ctabOk, Ec70_ok, cdep, cord⟩
noncomputable def Fc88 : Tree × Int → Option ((Int))
  | (a0, a1) =>
  if (a0.tag != a1) = true then
   some 123
  else
   if (decide ((a0.kids.length : Int) > 0)) = false then
    if ((a0.body.length : Int) == 0) = true then
     some 127
    else
     some 0
   else
    some 127

noncomputable def annc88 : Ann := .none
theorem eqc88 : ∀ x : Sc88.inT, exec ctab (ofL Ec70) 27 bodyc88 annc88 (finL ctab Sc88) (Sc88.inp.enc x) = Fc88 x := by
  rintro ⟨a0, a1⟩
  kernel_rfl
theorem callsc88 : CallsL Try.prog 88 Sc88 Fc88 := by
  refine fun_callsL (fn := Try.f88) (c := bodyc88) (ann := annc88) cc88 (by kernel_rfl) (by kernel_rfl) (by kernel_rfl) (by kernel_rfl) (by kernel_rfl) (annOk_of_cuts ?_) eqc88
  intro x hx
  exact absurd hx (by show x ∉ ([] : List (List Nat × LEnt)); simp)

theorem entc88 : EntOk Try.prog 88 (funEntL Sc88 true Fc88) := fun_okL (fn := Try.f88) (c := bodyc88) (by kernel_rfl) (by kernel_rfl) (by kernel_rfl) (by kernel_rfl) callsc88
noncomputable def Ec88 : List (Nat × Ent) := (88, (funEntL Sc88 true Fc88)) :: Ec70
theorem Ec88_ok : EntsOk Try.prog (ofL Ec88) := .cons entc88 Ec70_ok

/-! ### barbican/der.Uint -/
noncomputable def bodyc52 : Code := (Try.f52.body).getD .skip
abbrev Sc52 : FL := ⟨⟨[], [.env 0 (.dat .item)], []⟩, 1, [(.ret, ⟨[], [.env 0 (.c (.int .u64)), .env 1 (.c (.int .i64))], []⟩)], [.tmp 2, .tmp 3], false⟩
noncomputable def cc52 : Ctx Try.prog := ⟨ctab, ofL Ec88, ctabOk, Ec88_ok, cdep, cord⟩
abbrev lc52_0 : Lay := ⟨[], [.env 6 (.c (.int .u64)), .env 52 (.c (.fz (.int .u8))), .env 53 (.c (.int .i64)), .env 54 (.c (.int .i64))], []⟩
abbrev oc52_0 : List (AExit × Lay) := [(.exit 0, ⟨[], [.env 6 (.c (.int .u64))], []⟩)]
noncomputable def stepc52_0 : Int × (List Int) × Int × Int → Option ((Int × (List Int) × Int × Int) ⊕ ((Int)))
  | (t6, t52, t53, t54) =>
  if (decide (t54 < t53)) = true then
   if (0 : Int) ≤ t54 ∧ t54 < (t52.length : Int) then
    let x2 : Int := (bitsOr .u64 (shlI .u64 t6 8) (IntKind.u64.wrap (t52.getD t54.toNat 0)))
    some (.inl (x2, t52, t53, (IntKind.i64.wrap (t54 + 1))))
   else none
  else
   some (.inr t6)

noncomputable def annc52_0 : Ann := .none
noncomputable def Fc52 : Tree → Option ((Int × Int))
  | a0 =>
  (Fc88 ((Tree.node a0.tag a0.body a0.kids), 2)).bind fun y1 =>
   if (y1 != 0) = true then
    some (0, y1)
   else
    if (0 : Int) ≤ (0 : Int) ∧ (0 : Int) < (a0.body.length : Int) then
     if (decide ((a0.body.getD 0 0) ≥ 128)) = false then
      if (0 : Int) ≤ (0 : Int) ∧ (0 : Int) < (a0.body.length : Int) then
       if ((a0.body.getD 0 0) == 0) = true then
        if (decide ((a0.body.length : Int) > 1)) = true then
         if (0 : Int) ≤ (1 : Int) ∧ (1 : Int) < (a0.body.length : Int) then
          if (decide ((a0.body.getD 1 0) < 128)) = false then
           if (decide ((a0.body.length : Int) > 9)) = false then
            if ((a0.body.length : Int) == 9) = true then
             if (0 : Int) ≤ (0 : Int) ∧ (0 : Int) < (a0.body.length : Int) then
              if ((a0.body.getD 0 0) != 0) = true then
               some (0, 127)
              else
               (loopO stepc52_0 (0, a0.body, (a0.body.length : Int), 0)).bind fun z3 =>
                some (z3, 0)
             else none
            else
             (loopO stepc52_0 (0, a0.body, (a0.body.length : Int), 0)).bind fun z4 =>
              some (z4, 0)
           else
            some (0, 127)
          else
           some (0, 127)
         else none
        else
         if (decide ((a0.body.length : Int) > 9)) = false then
          if ((a0.body.length : Int) == 9) = true then
           if (0 : Int) ≤ (0 : Int) ∧ (0 : Int) < (a0.body.length : Int) then
            if ((a0.body.getD 0 0) != 0) = true then
             some (0, 127)
            else
             (loopO stepc52_0 (0, a0.body, (a0.body.length : Int), 0)).bind fun z5 =>
              some (z5, 0)
           else none
          else
           (loopO stepc52_0 (0, a0.body, (a0.body.length : Int), 0)).bind fun z6 =>
            some (z6, 0)
         else
          some (0, 127)
       else
        if (decide ((a0.body.length : Int) > 9)) = false then
         if ((a0.body.length : Int) == 9) = true then
          if (0 : Int) ≤ (0 : Int) ∧ (0 : Int) < (a0.body.length : Int) then
           if ((a0.body.getD 0 0) != 0) = true then
            some (0, 127)
           else
            (loopO stepc52_0 (0, a0.body, (a0.body.length : Int), 0)).bind fun z7 =>
             some (z7, 0)
          else none
         else
          (loopO stepc52_0 (0, a0.body, (a0.body.length : Int), 0)).bind fun z8 =>
           some (z8, 0)
        else
         some (0, 127)
      else none
     else
      some (0, 127)
    else none

noncomputable def annc52 : Ann := (.seq .none (.seq .none (.seq .none (.seq .none (.seq .none (.seq (.seq .none (.seq (.cut (cutEnt lc52_0 oc52_0 (loopO (stepc52_0)))) .none)) .none))))))
theorem eqc52_0 : ∀ s : lc52_0.T, exec ctab (ofL Ec88) 65 (Code.at' [1, 1, 1, 1, 1, 0, 1, 0, 0] bodyc52) annc52_0 (fun e st => loopEnd (l := lc52_0) (outs := oc52_0) e st) (lc52_0.enc s) = stepc52_0 s := by
  rintro ⟨t6, t52, t53, t54⟩
  kernel_rfl
theorem okc52_0 : LOk Try.prog 65 (cutEnt lc52_0 oc52_0 (loopO stepc52_0)) (Code.at' [1, 1, 1, 1, 1, 0, 1, 0] bodyc52) := by
  have e : Code.at' [1, 1, 1, 1, 1, 0, 1, 0] bodyc52 = .loop (Code.at' [1, 1, 1, 1, 1, 0, 1, 0, 0] bodyc52) := by kernel_rfl
  rw [e]
  refine loop_ok cc52 65 rfl rfl (annOk_of_cuts ?_) eqc52_0
  intro x hx
  exact absurd hx (by show x ∉ ([] : List (List Nat × LEnt)); simp)

theorem eqc52 : ∀ x : Sc52.inT, exec ctab (ofL Ec88) 65 bodyc52 annc52 (finL ctab Sc52) (Sc52.inp.enc x) = Fc52 x := by
  intro x
  kernel_rfl
theorem callsc52 : CallsL Try.prog 52 Sc52 Fc52 := by
  refine fun_callsL (fn := Try.f52) (c := bodyc52) (ann := annc52) cc52 (by kernel_rfl) (by kernel_rfl) (by kernel_rfl) (by kernel_rfl) (by kernel_rfl) (annOk_of_cuts ?_) eqc52
  have hc : Ann.cuts annc52 = [([1, 1, 1, 1, 1, 0, 1, 0], (cutEnt lc52_0 oc52_0 (loopO (stepc52_0))))] := by kernel_rfl
  rw [hc]
  intro x hx
  simp only [List.mem_cons, List.not_mem_nil, or_false] at hx
  rcases hx with rfl
  · have e : Code.at' [1, 1, 1, 1, 1, 0, 1, 0] bodyc52 = Code.at' [1, 1, 1, 1, 1, 0, 1, 0] bodyc52 := by kernel_rfl
    rw [e]; exact okc52_0

theorem entc52 : EntOk Try.prog 52 (funEntL Sc52 true Fc52) := fun_okL (fn := Try.f52) (c := bodyc52) (by kernel_rfl) (by kernel_rfl) (by kernel_rfl) (by kernel_rfl) callsc52
noncomputable def Ec52 : List (Nat × Ent) := (52, (funEntL Sc52 true Fc52)) :: Ec88
theorem Ec52_ok : EntsOk Try.prog (ofL Ec52) := .cons entc52 Ec88_ok

/-! ### barbican/cert.must[uint64] -/
noncomputable def bodyc72 : Code := (Try.f72.body).getD .skip
abbrev Sc72 : FL := ⟨⟨[], [.env 0 (.c (.int .u64)), .env 1 (.c (.int .i64))], []⟩, 2, [(.panic 75 0, ⟨[], [], []⟩), (.ret, ⟨[], [.env 0 (.c (.int .u64))], []⟩)], [.tmp 4], false⟩
noncomputable def cc72 : Ctx Try.prog := ⟨ctab, ofL Ec52, ctabOk, Ec52_ok, cdep, cord⟩
noncomputable def Fc72 : Int × Int → Option ((Int × (Unit)) ⊕ (Int))
  | (a0, a1) =>
  (Fc71 (a1 == 0)).bind fun
   | (.inl (e1, _)) =>
    some (.inl (e1, ()))
   | (.inr _) =>
    some (.inr a0)

noncomputable def annc72 : Ann := .none
theorem eqc72 : ∀ x : Sc72.inT, exec ctab (ofL Ec52) 9 bodyc72 annc72 (finL ctab Sc72) (Sc72.inp.enc x) = Fc72 x := by
  rintro ⟨a0, a1⟩
  kernel_rfl
theorem callsc72 : CallsL Try.prog 72 Sc72 Fc72 := by
  refine fun_callsL (fn := Try.f72) (c := bodyc72) (ann := annc72) cc72 (by kernel_rfl) (by kernel_rfl) (by kernel_rfl) (by kernel_rfl) (by kernel_rfl) (annOk_of_cuts ?_) eqc72
  intro x hx
  exact absurd hx (by show x ∉ ([] : List (List Nat × LEnt)); simp)

theorem entc72 : EntOk Try.prog 72 (funEntL Sc72 true Fc72) := fun_okL (fn := Try.f72) (c := bodyc72) (by kernel_rfl) (by kernel_rfl) (by kernel_rfl) (by kernel_rfl) callsc72
noncomputable def Ec72 : List (Nat × Ent) := (72, (funEntL Sc72 true Fc72)) :: Ec52
theorem Ec72_ok : EntsOk Try.prog (ofL Ec72) := .cons entc72 Ec52_ok

/-! ### slices.Equal[[]byte,byte] -/
noncomputable def bodyc100 : Code := (Try.f100.body).getD .skip
abbrev Sc100 : FL := ⟨⟨[], [.env 0 (.c (.fz (.int .u8))), .env 1 (.c (.fz (.int .u8)))], []⟩, 2, [(.ret, ⟨[], [.env 0 (.c (.bool))], []⟩)], [.tmp 4], false⟩
noncomputable def cc100 : Ctx Try.prog := ⟨ctab, ofL Ec72, ctabOk, Ec72_ok, cdep, cord⟩
abbrev lc100_0 : Lay := ⟨[], [.env 0 (.c (.fz (.int .u8))), .env 1 (.c (.fz (.int .u8))), .env 12 (.c (.int .i64)), .env 13 (.c (.int .i64))], []⟩
abbrev oc100_0 : List (AExit × Lay) := [(.ret, ⟨[], [.env 4 (.c (.bool))], []⟩), (.exit 0, ⟨[], [], []⟩)]
noncomputable def stepc100_0 : (List Int) × (List Int) × Int × Int → Option (((List Int) × (List Int) × Int × Int) ⊕ ((Bool) ⊕ (Unit)))
  | (t0, t1, t12, t13) =>
  if (decide (t13 < t12)) = true then
   if (0 : Int) ≤ t13 ∧ t13 < (t0.length : Int) then
    if (0 : Int) ≤ t13 ∧ t13 < (t1.length : Int) then
     if ((t0.getD t13.toNat 0) != (t1.getD t13.toNat 0)) = true then
      some (.inr (.inl false))
     else
      some (.inl (t0, t1, t12, (IntKind.i64.wrap (t13 + 1))))
    else none
   else none
  else
   some (.inr (.inr ()))

noncomputable def annc100_0 : Ann := .none
noncomputable def Fc100 : (List Int) × (List Int) → Option ((Bool))
  | (a0, a1) =>
  if ((a0.length : Int) != (a1.length : Int)) = true then
   some false
  else
   (loopO stepc100_0 (a0, a1, (a0.length : Int), 0)).bind fun
    | (.inl z1) =>
     some z1
    | (.inr _) =>
     some true

noncomputable def annc100 : Ann := (.seq .none (.seq .none (.seq (.seq .none (.seq (.cut (cutEnt lc100_0 oc100_0 (loopO (stepc100_0)))) .none)) .none)))
theorem eqc100_0 : ∀ s : lc100_0.T, exec ctab (ofL Ec72) 26 (Code.at' [1, 1, 0, 1, 0, 0] bodyc100) annc100_0 (fun e st => loopEnd (l := lc100_0) (outs := oc100_0) e st) (lc100_0.enc s) = stepc100_0 s := by
  rintro ⟨t0, t1, t12, t13⟩
  kernel_rfl
theorem okc100_0 : LOk Try.prog 26 (cutEnt lc100_0 oc100_0 (loopO stepc100_0)) (Code.at' [1, 1, 0, 1, 0] bodyc100) := by
  have e : Code.at' [1, 1, 0, 1, 0] bodyc100 = .loop (Code.at' [1, 1, 0, 1, 0, 0] bodyc100) := by kernel_rfl
  rw [e]
  refine loop_ok cc100 26 rfl rfl (annOk_of_cuts ?_) eqc100_0
  intro x hx
  exact absurd hx (by show x ∉ ([] : List (List Nat × LEnt)); simp)

theorem eqc100 : ∀ x : Sc100.inT, exec ctab (ofL Ec72) 26 bodyc100 annc100 (finL ctab Sc100) (Sc100.inp.enc x) = Fc100 x := by
  rintro ⟨a0, a1⟩
  kernel_rfl
theorem callsc100 : CallsL Try.prog 100 Sc100 Fc100 := by
  refine fun_callsL (fn := Try.f100) (c := bodyc100) (ann := annc100) cc100 (by kernel_rfl) (by kernel_rfl) (by kernel_rfl) (by kernel_rfl) (by kernel_rfl) (annOk_of_cuts ?_) eqc100
  have hc : Ann.cuts annc100 = [([1, 1, 0, 1, 0], (cutEnt lc100_0 oc100_0 (loopO (stepc100_0))))] := by kernel_rfl
  rw [hc]
  intro x hx
  simp only [List.mem_cons, List.not_mem_nil, or_false] at hx
  rcases hx with rfl
  · have e : Code.at' [1, 1, 0, 1, 0] bodyc100 = Code.at' [1, 1, 0, 1, 0] bodyc100 := by kernel_rfl
    rw [e]; exact okc100_0

theorem entc100 : EntOk Try.prog 100 (funEntL Sc100 true Fc100) := fun_okL (fn := Try.f100) (c := bodyc100) (by kernel_rfl) (by kernel_rfl) (by kernel_rfl) (by kernel_rfl) callsc100
noncomputable def Ec100 : List (Nat × Ent) := (100, (funEntL Sc100 true Fc100)) :: Ec72
theorem Ec100_ok : EntsOk Try.prog (ofL Ec100) := .cons entc100 Ec72_ok

/-! ### barbican/cert.is -/
noncomputable def bodyc73 : Code := (Try.f73.body).getD .skip
abbrev Sc73 : FL := ⟨⟨[], [.env 0 (.dat .item), .env 1 (.dat .item)], []⟩, 2, [(.ret, ⟨[], [], []⟩), (.panic 75 0, ⟨[], [], []⟩)], [], false⟩
noncomputable def cc73 (G : Sc73.inT → Option Sc73.outT) (hG : CallsL Try.prog 73 Sc73 G) : Ctx Try.prog := ⟨ctab, ofL ((73, funEntL Sc73 true G) :: Ec100), ctabOk, .cons (fun_okL (fn := Try.f73) (c := bodyc73) (by kernel_rfl) (by kernel_rfl) (by kernel_rfl) (by kernel_rfl) hG) Ec100_ok, cdep, cord⟩
abbrev lc73_0 : Lay := ⟨[(2, .ptr 2 0 3), (3, .ptr 3 0 3)], [.env 29 (.c (.int .i64)), .env 30 (.c (.int .i64)), .reg 2 (.cells [.int .u8, .fz (.int .u8), .fz .item]), .reg 3 (.cells [.int .u8, .fz (.int .u8), .fz .item])], [(2, .env 2 0), (3, .env 3 0)]⟩
abbrev oc73_0 : List (AExit × Lay) := [(.panic 75 0, ⟨[], [], []⟩), (.exit 0, ⟨[], [], []⟩)]
noncomputable def stepc73_0 (G : Tree × Tree → Option ((Unit) ⊕ (Int × (Unit)))) : Int × Int × (Int × (List Int) × (List Tree)) × (Int × (List Int) × (List Tree)) → Option ((Int × Int × (Int × (List Int) × (List Tree)) × (Int × (List Int) × (List Tree))) ⊕ ((Int × (Unit)) ⊕ (Unit)))
  | (t29, t30, r2, r3) =>
  if (decide (t30 < t29)) = true then
   if (0 : Int) ≤ t30 ∧ t30 < (r2.2.2.length : Int) then
    if (0 : Int) ≤ t30 ∧ t30 < (r3.2.2.length : Int) then
     (G ((Tree.node (r2.2.2.getD t30.toNat (DT.dflt .item)).tag (r2.2.2.getD t30.toNat (DT.dflt .item)).body (r2.2.2.getD t30.toNat (DT.dflt .item)).kids), (Tree.node (r3.2.2.getD t30.toNat (DT.dflt .item)).tag (r3.2.2.getD t30.toNat (DT.dflt .item)).body (r3.2.2.getD t30.toNat (DT.dflt .item)).kids))).bind fun
      | (.inl _) =>
       some (.inl (t29, (IntKind.i64.wrap (t30 + 1)), (r2.1, r2.2.1, r2.2.2), (r3.1, r3.2.1, r3.2.2)))
      | (.inr (e3, _)) =>
       some (.inr (.inl (e3, ())))
    else none
   else none
  else
   some (.inr (.inr ()))

noncomputable def annc73_0 (G : Tree × Tree → Option ((Unit) ⊕ (Int × (Unit)))) : Ann := .none
noncomputable def Bc73 (G : Tree × Tree → Option ((Unit) ⊕ (Int × (Unit)))) : Tree × Tree → Option ((Unit) ⊕ (Int × (Unit)))
  | (a0, a1) =>
  if (a0.tag == a1.tag) = true then
   (Fc100 (a0.body, a1.body)).bind fun y1 =>
    if y1 = true then
     (Fc71 ((a0.kids.length : Int) == (a1.kids.length : Int))).bind fun
      | (.inl (e2, _)) =>
       some (.inr (e2, ()))
      | (.inr _) =>
       (loopO (stepc73_0 G) ((a0.kids.length : Int), 0, (a0.tag, a0.body, a0.kids), (a1.tag, a1.body, a1.kids))).bind fun
        | (.inl (e4, _)) =>
         some (.inr (e4, ()))
        | (.inr _) =>
         some (.inl ())
    else
     (Fc71 false).bind fun
      | (.inl (e5, _)) =>
       some (.inr (e5, ()))
      | (.inr _) =>
       (loopO (stepc73_0 G) ((a0.kids.length : Int), 0, (a0.tag, a0.body, a0.kids), (a1.tag, a1.body, a1.kids))).bind fun
        | (.inl (e6, _)) =>
         some (.inr (e6, ()))
        | (.inr _) =>
         some (.inl ())
  else
   (Fc71 false).bind fun
    | (.inl (e7, _)) =>
     some (.inr (e7, ()))
    | (.inr _) =>
     (loopO (stepc73_0 G) ((a0.kids.length : Int), 0, (a0.tag, a0.body, a0.kids), (a1.tag, a1.body, a1.kids))).bind fun
      | (.inl (e8, _)) =>
       some (.inr (e8, ()))
      | (.inr _) =>
       some (.inl ())

noncomputable def annc73 (G : Tree × Tree → Option ((Unit) ⊕ (Int × (Unit)))) : Ann := (.seq .none (.seq .none (.seq .none (.seq (.cut (cutEnt lc73_0 oc73_0 (loopO (stepc73_0 G)))) .none))))
theorem eqc73_0 (G : Sc73.inT → Option Sc73.outT) (hG : CallsL Try.prog 73 Sc73 G) : ∀ s : lc73_0.T, exec ctab (ofL ((73, funEntL Sc73 true G) :: Ec100)) 45 (Code.at' [1, 1, 1, 0, 0] bodyc73) (annc73_0 G) (fun e st => loopEnd (l := lc73_0) (outs := oc73_0) e st) (lc73_0.enc s) = stepc73_0 G s := by
  rintro ⟨t29, t30, r2, r3⟩
  kernel_rfl
theorem okc73_0 (G : Sc73.inT → Option Sc73.outT) (hG : CallsL Try.prog 73 Sc73 G) : LOk Try.prog 45 (cutEnt lc73_0 oc73_0 (loopO (stepc73_0 G))) (Code.at' [1, 1, 1, 0] bodyc73) := by
  have e : Code.at' [1, 1, 1, 0] bodyc73 = .loop (Code.at' [1, 1, 1, 0, 0] bodyc73) := by kernel_rfl
  rw [e]
  refine loop_ok (cc73 G hG) 45 rfl rfl (annOk_of_cuts ?_) (eqc73_0 G hG)
  intro x hx
  exact absurd hx (by show x ∉ ([] : List (List Nat × LEnt)); simp)

theorem eqc73 (G : Sc73.inT → Option Sc73.outT) (hG : CallsL Try.prog 73 Sc73 G) : ∀ x : Sc73.inT, exec ctab (ofL ((73, funEntL Sc73 true G) :: Ec100)) 45 bodyc73 (annc73 G) (finL ctab Sc73) (Sc73.inp.enc x) = Bc73 G x := by
  rintro ⟨a0, a1⟩
  kernel_rfl
theorem bcallsc73 (G : Sc73.inT → Option Sc73.outT) (hG : CallsL Try.prog 73 Sc73 G) : CallsL Try.prog 73 Sc73 (Bc73 G) := by
  refine fun_callsL (fn := Try.f73) (c := bodyc73) (ann := (annc73 G)) (cc73 G hG) (by kernel_rfl) (by kernel_rfl) (by kernel_rfl) (by kernel_rfl) (by kernel_rfl) (annOk_of_cuts ?_) (eqc73 G hG)
  have hc : Ann.cuts (annc73 G) = [([1, 1, 1, 0], (cutEnt lc73_0 oc73_0 (loopO (stepc73_0 G))))] := by kernel_rfl
  rw [hc]
  intro x hx
  simp only [List.mem_cons, List.not_mem_nil, or_false] at hx
  rcases hx with rfl
  · have e : Code.at' [1, 1, 1, 0] bodyc73 = Code.at' [1, 1, 1, 0] bodyc73 := by kernel_rfl
    rw [e]; exact okc73_0 G hG

noncomputable def FRc73 : Nat → Tree × Tree → Option ((Unit) ⊕ (Int × (Unit)))
  | 0 => fun _ => none
  | k + 1 => Bc73 (FRc73 k)
theorem rcallsc73 : ∀ k, CallsL Try.prog 73 Sc73 (FRc73 k)
  | 0 => fun _ _ _ _ _ _ _ _ h => by cases h
  | k + 1 => bcallsc73 (FRc73 k) (rcallsc73 k)
noncomputable def Fc73 (x : Tree × Tree) : Option ((Unit) ⊕ (Int × (Unit))) := FRc73 (Tree.rank x.1 + 1) x
theorem callsc73 : CallsL Try.prog 73 Sc73 Fc73 := fun us x y w fp β h1 h2 h3 h4 => rcallsc73 _ us x y w fp β h1 h2 h3 h4
theorem entc73 : EntOk Try.prog 73 (funEntL Sc73 true Fc73) := fun_okL (fn := Try.f73) (c := bodyc73) (by kernel_rfl) (by kernel_rfl) (by kernel_rfl) (by kernel_rfl) callsc73
noncomputable def Ec73 : List (Nat × Ent) := (73, (funEntL Sc73 true Fc73)) :: Ec100
theorem Ec73_ok : EntsOk Try.prog (ofL Ec73) := .cons entc73 Ec100_ok

/-! ### barbican/cert.nameOf -/
noncomputable def bodyc74 : Code := (Try.f74.body).getD .skip
abbrev Sc74 : FL := ⟨⟨[], [.env 0 (.dat .item)], []⟩, 1, [(.panic 75 0, ⟨[], [], []⟩), (.ret, ⟨[], [.env 0 (.c (.str))], []⟩)], [.tmp 2], false⟩
noncomputable def cc74 : Ctx Try.prog := ⟨ctab, ofL Ec73, ctabOk, Ec73_ok, cdep, cord⟩
noncomputable def Fc74 : Tree → Option ((Int × (Unit)) ⊕ (ByteArray))
  | a0 =>
  (Fc70 ((Tree.node a0.tag a0.body a0.kids), 48, 1)).bind fun
   | (.inl (e1, _)) =>
    some (.inl (e1, ()))
   | (.inr y2) =>
    if (0 : Int) ≤ (0 : Int) ∧ (0 : Int) < (y2.length : Int) then
     (Fc70 ((Tree.node (y2.getD 0 (DT.dflt .item)).tag (y2.getD 0 (DT.dflt .item)).body (y2.getD 0 (DT.dflt .item)).kids), 49, 1)).bind fun
      | (.inl (e3, _)) =>
       some (.inl (e3, ()))
      | (.inr y4) =>
       if (0 : Int) ≤ (0 : Int) ∧ (0 : Int) < (y4.length : Int) then
        (Fc70 ((Tree.node (y4.getD 0 (DT.dflt .item)).tag (y4.getD 0 (DT.dflt .item)).body (y4.getD 0 (DT.dflt .item)).kids), 48, 2)).bind fun
         | (.inl (e5, _)) =>
          some (.inl (e5, ()))
         | (.inr y6) =>
          if (0 : Int) ≤ (0 : Int) ∧ (0 : Int) < (y6.length : Int) then
           let f7 : List Int := (((((List.replicate 4 (0 : Int)).set 0 2).set 1 5).set 2 4).set 3 3)
           (Fc85 f7).bind fun y8 =>
            (Fc73 ((Tree.node (y6.getD 0 (DT.dflt .item)).tag (y6.getD 0 (DT.dflt .item)).body (y6.getD 0 (DT.dflt .item)).kids), (Tree.node y8.tag y8.body y8.kids))).bind fun
             | (.inl _) =>
              if (0 : Int) ≤ (1 : Int) ∧ (1 : Int) < (y6.length : Int) then
               (Fc71 ((y6.getD 1 (DT.dflt .item)).tag == 12)).bind fun
                | (.inl (e9, _)) =>
                 some (.inl (e9, ()))
                | (.inr _) =>
                 if (0 : Int) ≤ (1 : Int) ∧ (1 : Int) < (y6.length : Int) then
                  some (.inr (ofBytes (y6.getD 1 (DT.dflt .item)).body))
                 else none
              else none
             | (.inr (e10, _)) =>
              some (.inl (e10, ()))
          else none
       else none
    else none

noncomputable def annc74 : Ann := .none
theorem eqc74 : ∀ x : Sc74.inT, exec ctab (ofL Ec73) 29 bodyc74 annc74 (finL ctab Sc74) (Sc74.inp.enc x) = Fc74 x := by
  intro x
  kernel_rfl
theorem callsc74 : CallsL Try.prog 74 Sc74 Fc74 := by
  refine fun_callsL (fn := Try.f74) (c := bodyc74) (ann := annc74) cc74 (by kernel_rfl) (by kernel_rfl) (by kernel_rfl) (by kernel_rfl) (by kernel_rfl) (annOk_of_cuts ?_) eqc74
  intro x hx
  exact absurd hx (by show x ∉ ([] : List (List Nat × LEnt)); simp)

theorem entc74 : EntOk Try.prog 74 (funEntL Sc74 true Fc74) := fun_okL (fn := Try.f74) (c := bodyc74) (by kernel_rfl) (by kernel_rfl) (by kernel_rfl) (by kernel_rfl) callsc74
noncomputable def Ec74 : List (Nat × Ent) := (74, (funEntL Sc74 true Fc74)) :: Ec73
theorem Ec74_ok : EntsOk Try.prog (ofL Ec74) := .cons entc74 Ec73_ok

/-! ### barbican/der.Bits -/
noncomputable def bodyc53 : Code := (Try.f53.body).getD .skip
abbrev Sc53 : FL := ⟨⟨[], [.env 0 (.dat .item)], []⟩, 1, [(.ret, ⟨[(0, .full 3)], [.reg 3 (.row 5 .u8), .env 1 (.c (.int .i64))], [(3, .env 0 0)]⟩)], [.tmp 2, .tmp 3], false⟩
noncomputable def cc53 : Ctx Try.prog := ⟨ctab, ofL Ec74, ctabOk, Ec74_ok, cdep, cord⟩
noncomputable def Fc53 : Tree → Option ((List Int × Int))
  | a0 =>
  (Fc88 ((Tree.node a0.tag a0.body a0.kids), 3)).bind fun y1 =>
   if (y1 != 0) = true then
    some (([] : List Int), y1)
   else
    if (0 : Int) ≤ (0 : Int) ∧ (0 : Int) < (a0.body.length : Int) then
     if ((a0.body.getD 0 0) != 0) = true then
      some (([] : List Int), 127)
     else
      if (0 : Int) ≤ (1 : Int) ∧ (1 : Int) ≤ (a0.body.length : Int) then
       (Fc50 (a0.body.drop 1)).bind fun y2 =>
        some (y2, 0)
      else none
    else none

noncomputable def annc53 : Ann := .none
theorem eqc53 : ∀ x : Sc53.inT, exec ctab (ofL Ec74) 18 bodyc53 annc53 (finL ctab Sc53) (Sc53.inp.enc x) = Fc53 x := by
  intro x
  kernel_rfl
theorem callsc53 : CallsL Try.prog 53 Sc53 Fc53 := by
  refine fun_callsL (fn := Try.f53) (c := bodyc53) (ann := annc53) cc53 (by kernel_rfl) (by kernel_rfl) (by kernel_rfl) (by kernel_rfl) (by kernel_rfl) (annOk_of_cuts ?_) eqc53
  intro x hx
  exact absurd hx (by show x ∉ ([] : List (List Nat × LEnt)); simp)

theorem entc53 : EntOk Try.prog 53 (funEntL Sc53 true Fc53) := fun_okL (fn := Try.f53) (c := bodyc53) (by kernel_rfl) (by kernel_rfl) (by kernel_rfl) (by kernel_rfl) callsc53
noncomputable def Ec53 : List (Nat × Ent) := (53, (funEntL Sc53 true Fc53)) :: Ec74
theorem Ec53_ok : EntsOk Try.prog (ofL Ec53) := .cons entc53 Ec74_ok

/-! ### barbican/cert.must[[]byte] -/
noncomputable def bodyc76 : Code := (Try.f76.body).getD .skip
abbrev Sc76 : FL := ⟨⟨[(0, .full 1000000)], [.reg 1000000 (.row 5 .u8), .env 1 (.c (.int .i64))], [(1000000, .env 0 0)]⟩, 2, [(.panic 75 0, ⟨[], [], []⟩), (.ret, ⟨[(0, .full 1000000)], [.reg 1000000 (.row 5 .u8)], []⟩)], [.tmp 4], true⟩
noncomputable def cc76 : Ctx Try.prog := ⟨ctab, ofL Ec53, ctabOk, Ec53_ok, cdep, cord⟩
noncomputable def Fc76 : List Int × Int → Option ((Int × (Unit)) ⊕ (List Int))
  | (a0, a1) =>
  (Fc71 (a1 == 0)).bind fun
   | (.inl (e1, _)) =>
    some (.inl (e1, ()))
   | (.inr _) =>
    some (.inr a0)

noncomputable def annc76 : Ann := .none
theorem eqc76 : ∀ x : Sc76.inT, exec ctab (ofL Ec53) 9 bodyc76 annc76 (finL ctab Sc76) (Sc76.inp.enc x) = Fc76 x := by
  rintro ⟨a0, a1⟩
  kernel_rfl
theorem callsc76 : CallsL Try.prog 76 Sc76 Fc76 := by
  refine fun_callsL (fn := Try.f76) (c := bodyc76) (ann := annc76) cc76 (by kernel_rfl) (by kernel_rfl) (by kernel_rfl) (by kernel_rfl) (by kernel_rfl) (annOk_of_cuts ?_) eqc76
  intro x hx
  exact absurd hx (by show x ∉ ([] : List (List Nat × LEnt)); simp)

theorem entc76 : EntOk Try.prog 76 (funEntL Sc76 true Fc76) := fun_okL (fn := Try.f76) (c := bodyc76) (by kernel_rfl) (by kernel_rfl) (by kernel_rfl) (by kernel_rfl) callsc76
noncomputable def Ec76 : List (Nat × Ent) := (76, (funEntL Sc76 true Fc76)) :: Ec53
theorem Ec76_ok : EntsOk Try.prog (ofL Ec76) := .cons entc76 Ec53_ok

/-! ### barbican/der.OID -/
noncomputable def bodyc102 : Code := (Try.f102.body).getD .skip
abbrev Sc102 : FL := ⟨⟨[], [.env 0 (.dat .item)], []⟩, 1, [(.ret, ⟨[(0, .full 3)], [.reg 3 (.row 23 .u64), .env 1 (.c (.int .i64))], [(3, .env 0 0)]⟩)], [.tmp 2, .tmp 3], false⟩
noncomputable def cc102 : Ctx Try.prog := ⟨ctab, ofL Ec76, ctabOk, Ec76_ok, cdep, cord⟩
abbrev lc102_0 : Lay := ⟨[(5, .full 5)], [.env 6 (.c (.int .u64)), .env 7 (.c (.bool)), .env 16 (.c (.fz (.int .u8))), .env 17 (.c (.int .i64)), .env 18 (.c (.int .i64)), .reg 5 (.row 23 .u64)], [(5, .env 5 0)]⟩
abbrev oc102_0 : List (AExit × Lay) := [(.ret, ⟨[(2, .full 2)], [.env 3 (.c (.int .i64)), .reg 2 (.row 23 .u64)], [(2, .env 2 0)]⟩), (.exit 0, ⟨[(5, .full 5)], [.env 7 (.c (.bool)), .reg 5 (.row 23 .u64)], [(5, .env 5 0)]⟩)]
noncomputable def stepc102_0 : Int × Bool × (List Int) × Int × Int × List Int → Option ((Int × Bool × (List Int) × Int × Int × List Int) ⊕ ((Int × List Int) ⊕ (Bool × List Int)))
  | (t6, t7, t16, t17, t18, r5) =>
  if (decide (t18 < t17)) = true then
   if (0 : Int) ≤ t18 ∧ t18 < (t16.length : Int) then
    if t7 = true then
     if ((t16.getD t18.toNat 0) == 128) = true then
      some (.inr (.inl (127, ([] : List Int))))
     else
      let x2 : Int := (bitsOr .u64 (shlI .u64 t6 7) (IntKind.u64.wrap (bitsAnd .u8 (t16.getD t18.toNat 0) 127)))
      if (decide (x2 > 4294967295)) = true then
       some (.inr (.inl (127, ([] : List Int))))
      else
       if (!(decide ((t16.getD t18.toNat 0) < 128))) = true then
        some (.inl (x2, (decide ((t16.getD t18.toNat 0) < 128)), t16, t17, (IntKind.i64.wrap (t18 + 1)), r5))
       else
        if ((r5.length : Int) == 0) = true then
         let x3 : Int := (if 2 < (IntKind.u64.wrap (x2.tdiv 40)) then 2 else (IntKind.u64.wrap (x2.tdiv 40)))
         if okBytes (r5.length + ((List.replicate 1 (0 : Int)).set 0 x3).length) 8 then
          let f4 : List Int := ((List.replicate 1 (0 : Int)).set 0 (IntKind.u64.wrap (x2 - (IntKind.u64.wrap (40 * x3)))))
          if okBytes ((r5 ++ ((List.replicate 1 (0 : Int)).set 0 x3)).length + f4.length) 8 then
           some (.inl (0, (decide ((t16.getD t18.toNat 0) < 128)), t16, t17, (IntKind.i64.wrap (t18 + 1)), ((r5 ++ ((List.replicate 1 (0 : Int)).set 0 x3)) ++ f4)))
          else none
         else none
        else
         if okBytes (r5.length + ((List.replicate 1 (0 : Int)).set 0 x2).length) 8 then
          some (.inl (0, (decide ((t16.getD t18.toNat 0) < 128)), t16, t17, (IntKind.i64.wrap (t18 + 1)), (r5 ++ ((List.replicate 1 (0 : Int)).set 0 x2))))
         else none
    else
     let x5 : Int := (bitsOr .u64 (shlI .u64 t6 7) (IntKind.u64.wrap (bitsAnd .u8 (t16.getD t18.toNat 0) 127)))
     if (decide (x5 > 4294967295)) = true then
      some (.inr (.inl (127, ([] : List Int))))
     else
      if (!(decide ((t16.getD t18.toNat 0) < 128))) = true then
       some (.inl (x5, (decide ((t16.getD t18.toNat 0) < 128)), t16, t17, (IntKind.i64.wrap (t18 + 1)), r5))
      else
       if ((r5.length : Int) == 0) = true then
        let x6 : Int := (if 2 < (IntKind.u64.wrap (x5.tdiv 40)) then 2 else (IntKind.u64.wrap (x5.tdiv 40)))
        if okBytes (r5.length + ((List.replicate 1 (0 : Int)).set 0 x6).length) 8 then
         let f7 : List Int := ((List.replicate 1 (0 : Int)).set 0 (IntKind.u64.wrap (x5 - (IntKind.u64.wrap (40 * x6)))))
         if okBytes ((r5 ++ ((List.replicate 1 (0 : Int)).set 0 x6)).length + f7.length) 8 then
          some (.inl (0, (decide ((t16.getD t18.toNat 0) < 128)), t16, t17, (IntKind.i64.wrap (t18 + 1)), ((r5 ++ ((List.replicate 1 (0 : Int)).set 0 x6)) ++ f7)))
         else none
        else none
       else
        if okBytes (r5.length + ((List.replicate 1 (0 : Int)).set 0 x5).length) 8 then
         some (.inl (0, (decide ((t16.getD t18.toNat 0) < 128)), t16, t17, (IntKind.i64.wrap (t18 + 1)), (r5 ++ ((List.replicate 1 (0 : Int)).set 0 x5))))
        else none
   else none
  else
   some (.inr (.inr (t7, r5)))

noncomputable def annc102_0 : Ann := .none
noncomputable def Fc102 : Tree → Option ((List Int × Int))
  | a0 =>
  (Fc88 ((Tree.node a0.tag a0.body a0.kids), 6)).bind fun y1 =>
   if (y1 != 0) = true then
    some (([] : List Int), y1)
   else
    (loopO stepc102_0 (0, true, a0.body, (a0.body.length : Int), 0, ([] : List Int))).bind fun
     | (.inl (z8, z9)) =>
      some (z9, z8)
     | (.inr (z10, z11)) =>
      if (!z10) = false then
       if (decide ((z11.length : Int) > 20)) = true then
        some (([] : List Int), 127)
       else
        some (z11, 0)
      else
       some (([] : List Int), 127)

noncomputable def annc102 : Ann := (.seq .none (.seq .none (.seq .none (.seq .none (.seq .none (.seq (.seq .none (.seq (.cut (cutEnt lc102_0 oc102_0 (loopO (stepc102_0)))) .none)) .none))))))
theorem eqc102_0 : ∀ s : lc102_0.T, exec ctab (ofL Ec76) 66 (Code.at' [1, 1, 1, 1, 1, 0, 1, 0, 0] bodyc102) annc102_0 (fun e st => loopEnd (l := lc102_0) (outs := oc102_0) e st) (lc102_0.enc s) = stepc102_0 s := by
  rintro ⟨t6, t7, t16, t17, t18, r5⟩
  kernel_rfl
theorem okc102_0 : LOk Try.prog 66 (cutEnt lc102_0 oc102_0 (loopO stepc102_0)) (Code.at' [1, 1, 1, 1, 1, 0, 1, 0] bodyc102) := by
  have e : Code.at' [1, 1, 1, 1, 1, 0, 1, 0] bodyc102 = .loop (Code.at' [1, 1, 1, 1, 1, 0, 1, 0, 0] bodyc102) := by kernel_rfl
  rw [e]
  refine loop_ok cc102 66 rfl rfl (annOk_of_cuts ?_) eqc102_0
  intro x hx
  exact absurd hx (by show x ∉ ([] : List (List Nat × LEnt)); simp)

theorem eqc102 : ∀ x : Sc102.inT, exec ctab (ofL Ec76) 66 bodyc102 annc102 (finL ctab Sc102) (Sc102.inp.enc x) = Fc102 x := by
  intro x
  kernel_rfl
theorem callsc102 : CallsL Try.prog 102 Sc102 Fc102 := by
  refine fun_callsL (fn := Try.f102) (c := bodyc102) (ann := annc102) cc102 (by kernel_rfl) (by kernel_rfl) (by kernel_rfl) (by kernel_rfl) (by kernel_rfl) (annOk_of_cuts ?_) eqc102
  have hc : Ann.cuts annc102 = [([1, 1, 1, 1, 1, 0, 1, 0], (cutEnt lc102_0 oc102_0 (loopO (stepc102_0))))] := by kernel_rfl
  rw [hc]
  intro x hx
  simp only [List.mem_cons, List.not_mem_nil, or_false] at hx
  rcases hx with rfl
  · have e : Code.at' [1, 1, 1, 1, 1, 0, 1, 0] bodyc102 = Code.at' [1, 1, 1, 1, 1, 0, 1, 0] bodyc102 := by kernel_rfl
    rw [e]; exact okc102_0

theorem entc102 : EntOk Try.prog 102 (funEntL Sc102 true Fc102) := fun_okL (fn := Try.f102) (c := bodyc102) (by kernel_rfl) (by kernel_rfl) (by kernel_rfl) (by kernel_rfl) callsc102
noncomputable def Ec102 : List (Nat × Ent) := (102, (funEntL Sc102 true Fc102)) :: Ec76
theorem Ec102_ok : EntsOk Try.prog (ofL Ec102) := .cons entc102 Ec76_ok

/-! ### barbican/cert.must[[]uint64] -/
noncomputable def bodyc101 : Code := (Try.f101.body).getD .skip
abbrev Sc101 : FL := ⟨⟨[], [.env 0 (.c (.fz (.int .u64))), .env 1 (.c (.int .i64))], []⟩, 2, [(.panic 75 0, ⟨[], [], []⟩), (.ret, ⟨[], [.env 0 (.c (.fz (.int .u64)))], []⟩)], [.tmp 4], true⟩
noncomputable def cc101 : Ctx Try.prog := ⟨ctab, ofL Ec102, ctabOk, Ec102_ok, cdep, cord⟩
noncomputable def Fc101 : (List Int) × Int → Option ((Int × (Unit)) ⊕ ((List Int)))
  | (a0, a1) =>
  (Fc71 (a1 == 0)).bind fun
   | (.inl (e1, _)) =>
    some (.inl (e1, ()))
   | (.inr _) =>
    some (.inr a0)

noncomputable def annc101 : Ann := .none
theorem eqc101 : ∀ x : Sc101.inT, exec ctab (ofL Ec102) 9 bodyc101 annc101 (finL ctab Sc101) (Sc101.inp.enc x) = Fc101 x := by
  rintro ⟨a0, a1⟩
  kernel_rfl
theorem callsc101 : CallsL Try.prog 101 Sc101 Fc101 := by
  refine fun_callsL (fn := Try.f101) (c := bodyc101) (ann := annc101) cc101 (by kernel_rfl) (by kernel_rfl) (by kernel_rfl) (by kernel_rfl) (by kernel_rfl) (annOk_of_cuts ?_) eqc101
  intro x hx
  exact absurd hx (by show x ∉ ([] : List (List Nat × LEnt)); simp)

theorem entc101 : EntOk Try.prog 101 (funEntL Sc101 true Fc101) := fun_okL (fn := Try.f101) (c := bodyc101) (by kernel_rfl) (by kernel_rfl) (by kernel_rfl) (by kernel_rfl) callsc101
noncomputable def Ec101 : List (Nat × Ent) := (101, (funEntL Sc101 true Fc101)) :: Ec102
theorem Ec101_ok : EntsOk Try.prog (ofL Ec101) := .cons entc101 Ec102_ok

/-! ### slices.Equal[[]uint64,uint64] -/
noncomputable def bodyc103 : Code := (Try.f103.body).getD .skip
abbrev Sc103 : FL := ⟨⟨[], [.env 0 (.c (.fz (.int .u64))), .env 1 (.c (.fz (.int .u64)))], []⟩, 2, [(.ret, ⟨[], [.env 0 (.c (.bool))], []⟩)], [.tmp 4], false⟩
noncomputable def cc103 : Ctx Try.prog := ⟨ctab, ofL Ec101, ctabOk, Ec101_ok, cdep, cord⟩
abbrev lc103_0 : Lay := ⟨[], [.env 0 (.c (.fz (.int .u64))), .env 1 (.c (.fz (.int .u64))), .env 12 (.c (.int .i64)), .env 13 (.c (.int .i64))], []⟩
abbrev oc103_0 : List (AExit × Lay) := [(.ret, ⟨[], [.env 4 (.c (.bool))], []⟩), (.exit 0, ⟨[], [], []⟩)]
noncomputable def stepc103_0 : (List Int) × (List Int) × Int × Int → Option (((List Int) × (List Int) × Int × Int) ⊕ ((Bool) ⊕ (Unit)))
  | (t0, t1, t12, t13) =>
  if (decide (t13 < t12)) = true then
   if (0 : Int) ≤ t13 ∧ t13 < (t0.length : Int) then
    if (0 : Int) ≤ t13 ∧ t13 < (t1.length : Int) then
     if ((t0.getD t13.toNat 0) != (t1.getD t13.toNat 0)) = true then
      some (.inr (.inl false))
     else
      some (.inl (t0, t1, t12, (IntKind.i64.wrap (t13 + 1))))
    else none
   else none
  else
   some (.inr (.inr ()))

noncomputable def annc103_0 : Ann := .none
noncomputable def Fc103 : (List Int) × (List Int) → Option ((Bool))
  | (a0, a1) =>
  if ((a0.length : Int) != (a1.length : Int)) = true then
   some false
  else
   (loopO stepc103_0 (a0, a1, (a0.length : Int), 0)).bind fun
    | (.inl z1) =>
     some z1
    | (.inr _) =>
     some true

noncomputable def annc103 : Ann := (.seq .none (.seq .none (.seq (.seq .none (.seq (.cut (cutEnt lc103_0 oc103_0 (loopO (stepc103_0)))) .none)) .none)))
theorem eqc103_0 : ∀ s : lc103_0.T, exec ctab (ofL Ec101) 26 (Code.at' [1, 1, 0, 1, 0, 0] bodyc103) annc103_0 (fun e st => loopEnd (l := lc103_0) (outs := oc103_0) e st) (lc103_0.enc s) = stepc103_0 s := by
  rintro ⟨t0, t1, t12, t13⟩
  kernel_rfl
theorem okc103_0 : LOk Try.prog 26 (cutEnt lc103_0 oc103_0 (loopO stepc103_0)) (Code.at' [1, 1, 0, 1, 0] bodyc103) := by
  have e : Code.at' [1, 1, 0, 1, 0] bodyc103 = .loop (Code.at' [1, 1, 0, 1, 0, 0] bodyc103) := by kernel_rfl
  rw [e]
  refine loop_ok cc103 26 rfl rfl (annOk_of_cuts ?_) eqc103_0
  intro x hx
  exact absurd hx (by show x ∉ ([] : List (List Nat × LEnt)); simp)

theorem eqc103 : ∀ x : Sc103.inT, exec ctab (ofL Ec101) 26 bodyc103 annc103 (finL ctab Sc103) (Sc103.inp.enc x) = Fc103 x := by
  rintro ⟨a0, a1⟩
  kernel_rfl
theorem callsc103 : CallsL Try.prog 103 Sc103 Fc103 := by
  refine fun_callsL (fn := Try.f103) (c := bodyc103) (ann := annc103) cc103 (by kernel_rfl) (by kernel_rfl) (by kernel_rfl) (by kernel_rfl) (by kernel_rfl) (annOk_of_cuts ?_) eqc103
  have hc : Ann.cuts annc103 = [([1, 1, 0, 1, 0], (cutEnt lc103_0 oc103_0 (loopO (stepc103_0))))] := by kernel_rfl
  rw [hc]
  intro x hx
  simp only [List.mem_cons, List.not_mem_nil, or_false] at hx
  rcases hx with rfl
  · have e : Code.at' [1, 1, 0, 1, 0] bodyc103 = Code.at' [1, 1, 0, 1, 0] bodyc103 := by kernel_rfl
    rw [e]; exact okc103_0

theorem entc103 : EntOk Try.prog 103 (funEntL Sc103 true Fc103) := fun_okL (fn := Try.f103) (c := bodyc103) (by kernel_rfl) (by kernel_rfl) (by kernel_rfl) (by kernel_rfl) callsc103
noncomputable def Ec103 : List (Nat × Ent) := (103, (funEntL Sc103 true Fc103)) :: Ec101
theorem Ec103_ok : EntsOk Try.prog (ofL Ec103) := .cons entc103 Ec101_ok

/-! ### barbican/der.Bool -/
noncomputable def bodyc105 : Code := (Try.f105.body).getD .skip
abbrev Sc105 : FL := ⟨⟨[], [.env 0 (.dat .item)], []⟩, 1, [(.ret, ⟨[], [.env 0 (.c (.bool)), .env 1 (.c (.int .i64))], []⟩)], [.tmp 2, .tmp 3], false⟩
noncomputable def cc105 : Ctx Try.prog := ⟨ctab, ofL Ec103, ctabOk, Ec103_ok, cdep, cord⟩
noncomputable def Fc105 : Tree → Option ((Bool × Int))
  | a0 =>
  (Fc88 ((Tree.node a0.tag a0.body a0.kids), 1)).bind fun y1 =>
   if (y1 != 0) = true then
    some (false, y1)
   else
    if ((a0.body.length : Int) != 1) = false then
     if (0 : Int) ≤ (0 : Int) ∧ (0 : Int) < (a0.body.length : Int) then
      if ((a0.body.getD 0 0) != 0) = true then
       if (0 : Int) ≤ (0 : Int) ∧ (0 : Int) < (a0.body.length : Int) then
        if ((a0.body.getD 0 0) != 255) = true then
         some (false, 127)
        else
         if (0 : Int) ≤ (0 : Int) ∧ (0 : Int) < (a0.body.length : Int) then
          some (((a0.body.getD 0 0) != 0), 0)
         else none
       else none
      else
       if (0 : Int) ≤ (0 : Int) ∧ (0 : Int) < (a0.body.length : Int) then
        some (((a0.body.getD 0 0) != 0), 0)
       else none
     else none
    else
     some (false, 127)

noncomputable def annc105 : Ann := .none
theorem eqc105 : ∀ x : Sc105.inT, exec ctab (ofL Ec103) 32 bodyc105 annc105 (finL ctab Sc105) (Sc105.inp.enc x) = Fc105 x := by
  intro x
  kernel_rfl
theorem callsc105 : CallsL Try.prog 105 Sc105 Fc105 := by
  refine fun_callsL (fn := Try.f105) (c := bodyc105) (ann := annc105) cc105 (by kernel_rfl) (by kernel_rfl) (by kernel_rfl) (by kernel_rfl) (by kernel_rfl) (annOk_of_cuts ?_) eqc105
  intro x hx
  exact absurd hx (by show x ∉ ([] : List (List Nat × LEnt)); simp)

theorem entc105 : EntOk Try.prog 105 (funEntL Sc105 true Fc105) := fun_okL (fn := Try.f105) (c := bodyc105) (by kernel_rfl) (by kernel_rfl) (by kernel_rfl) (by kernel_rfl) callsc105
noncomputable def Ec105 : List (Nat × Ent) := (105, (funEntL Sc105 true Fc105)) :: Ec103
theorem Ec105_ok : EntsOk Try.prog (ofL Ec105) := .cons entc105 Ec103_ok

/-! ### barbican/cert.must[bool] -/
noncomputable def bodyc104 : Code := (Try.f104.body).getD .skip
abbrev Sc104 : FL := ⟨⟨[], [.env 0 (.c (.bool)), .env 1 (.c (.int .i64))], []⟩, 2, [(.panic 75 0, ⟨[], [], []⟩), (.ret, ⟨[], [.env 0 (.c (.bool))], []⟩)], [.tmp 4], false⟩
noncomputable def cc104 : Ctx Try.prog := ⟨ctab, ofL Ec105, ctabOk, Ec105_ok, cdep, cord⟩
noncomputable def Fc104 : Bool × Int → Option ((Int × (Unit)) ⊕ (Bool))
  | (a0, a1) =>
  (Fc71 (a1 == 0)).bind fun
   | (.inl (e1, _)) =>
    some (.inl (e1, ()))
   | (.inr _) =>
    some (.inr a0)

noncomputable def annc104 : Ann := .none
theorem eqc104 : ∀ x : Sc104.inT, exec ctab (ofL Ec105) 9 bodyc104 annc104 (finL ctab Sc104) (Sc104.inp.enc x) = Fc104 x := by
  rintro ⟨a0, a1⟩
  kernel_rfl
theorem callsc104 : CallsL Try.prog 104 Sc104 Fc104 := by
  refine fun_callsL (fn := Try.f104) (c := bodyc104) (ann := annc104) cc104 (by kernel_rfl) (by kernel_rfl) (by kernel_rfl) (by kernel_rfl) (by kernel_rfl) (annOk_of_cuts ?_) eqc104
  intro x hx
  exact absurd hx (by show x ∉ ([] : List (List Nat × LEnt)); simp)

theorem entc104 : EntOk Try.prog 104 (funEntL Sc104 true Fc104) := fun_okL (fn := Try.f104) (c := bodyc104) (by kernel_rfl) (by kernel_rfl) (by kernel_rfl) (by kernel_rfl) callsc104
noncomputable def Ec104 : List (Nat × Ent) := (104, (funEntL Sc104 true Fc104)) :: Ec105
theorem Ec104_ok : EntsOk Try.prog (ofL Ec104) := .cons entc104 Ec105_ok

/-! ### barbican/cert.extOf -/
noncomputable def bodyc77 : Code := (Try.f77.body).getD .skip
abbrev Sc77 : FL := ⟨⟨[], [.env 0 (.dat .item)], []⟩, 1, [(.panic 75 0, ⟨[], [], []⟩), (.ret, ⟨[], [.env 0 (.agg [.int .i64, .bool, .fz (.int .u8)])], []⟩)], [.cell 2 45], true⟩
noncomputable def cc77 : Ctx Try.prog := ⟨ctab, ofL Ec104, ctabOk, Ec104_ok, cdep, cord⟩
noncomputable def Fc77 : Tree → Option ((Int × (Unit)) ⊕ (Int × Bool × (List Int)))
  | a0 =>
  if (a0.tag == 48) = true then
   if ((a0.kids.length : Int) == 2) = false then
    (Fc71 ((a0.kids.length : Int) == 3)).bind fun
     | (.inl (e1, _)) =>
      some (.inl (e1, ()))
     | (.inr _) =>
      if (0 : Int) ≤ (0 : Int) ∧ (0 : Int) < (a0.kids.length : Int) then
       (Fc102 (Tree.node (a0.kids.getD 0 (DT.dflt .item)).tag (a0.kids.getD 0 (DT.dflt .item)).body (a0.kids.getD 0 (DT.dflt .item)).kids)).bind fun (y2, y3) =>
        (Fc101 (y2, y3)).bind fun
         | (.inl (e4, _)) =>
          some (.inl (e4, ()))
         | (.inr y5) =>
          if ((y5.length : Int) == 9) = true then
           if (0 : Int) ≤ (8 : Int) ∧ (8 : Int) ≤ (y5.length : Int) then
            let f6 : List Int := (((((((((List.replicate 8 (0 : Int)).set 0 1).set 1 3).set 2 6).set 3 1).set 4 4).set 5 1).set 6 4128).set 7 2100)
            (Fc103 ((y5.take 8), f6)).bind fun y7 =>
             if y7 = true then
              if (0 : Int) ≤ (8 : Int) ∧ (8 : Int) < (y5.length : Int) then
               (Fc71 (decide ((y5.getD 8 0) ≥ 1))).bind fun
                | (.inl (e8, _)) =>
                 some (.inl (e8, ()))
                | (.inr _) =>
                 if ((a0.kids.length : Int) == 3) = true then
                  if (0 : Int) ≤ (1 : Int) ∧ (1 : Int) < (a0.kids.length : Int) then
                   (Fc105 (Tree.node (a0.kids.getD 1 (DT.dflt .item)).tag (a0.kids.getD 1 (DT.dflt .item)).body (a0.kids.getD 1 (DT.dflt .item)).kids)).bind fun (y9, y10) =>
                    (Fc104 (y9, y10)).bind fun
                     | (.inl (e11, _)) =>
                      some (.inl (e11, ()))
                     | (.inr y12) =>
                      (Fc71 y12).bind fun
                       | (.inl (e13, _)) =>
                        some (.inl (e13, ()))
                       | (.inr _) =>
                        if (0 : Int) ≤ (IntKind.i64.wrap ((a0.kids.length : Int) - 1)) ∧ (IntKind.i64.wrap ((a0.kids.length : Int) - 1)) < (a0.kids.length : Int) then
                         let x14 : Int := (a0.kids.getD (IntKind.i64.wrap ((a0.kids.length : Int) - 1)).toNat (DT.dflt .item)).tag
                         let f15 : List Int := (a0.kids.getD (IntKind.i64.wrap ((a0.kids.length : Int) - 1)).toNat (DT.dflt .item)).body
                         let f16 : List Tree := (a0.kids.getD (IntKind.i64.wrap ((a0.kids.length : Int) - 1)).toNat (DT.dflt .item)).kids
                         (Fc71 (x14 == 4)).bind fun
                          | (.inl (e17, _)) =>
                           some (.inl (e17, ()))
                          | (.inr _) =>
                           if (0 : Int) ≤ (8 : Int) ∧ (8 : Int) < (y5.length : Int) then
                            some (.inr ((IntKind.i64.wrap (y5.getD 8 0)), ((a0.kids.length : Int) == 3), f15))
                           else none
                        else none
                  else none
                 else
                  if (0 : Int) ≤ (IntKind.i64.wrap ((a0.kids.length : Int) - 1)) ∧ (IntKind.i64.wrap ((a0.kids.length : Int) - 1)) < (a0.kids.length : Int) then
                   let x18 : Int := (a0.kids.getD (IntKind.i64.wrap ((a0.kids.length : Int) - 1)).toNat (DT.dflt .item)).tag
                   let f19 : List Int := (a0.kids.getD (IntKind.i64.wrap ((a0.kids.length : Int) - 1)).toNat (DT.dflt .item)).body
                   let f20 : List Tree := (a0.kids.getD (IntKind.i64.wrap ((a0.kids.length : Int) - 1)).toNat (DT.dflt .item)).kids
                   (Fc71 (x18 == 4)).bind fun
                    | (.inl (e21, _)) =>
                     some (.inl (e21, ()))
                    | (.inr _) =>
                     if (0 : Int) ≤ (8 : Int) ∧ (8 : Int) < (y5.length : Int) then
                      some (.inr ((IntKind.i64.wrap (y5.getD 8 0)), ((a0.kids.length : Int) == 3), f19))
                     else none
                  else none
              else none
             else
              (Fc71 false).bind fun
               | (.inl (e22, _)) =>
                some (.inl (e22, ()))
               | (.inr _) =>
                if ((a0.kids.length : Int) == 3) = true then
                 if (0 : Int) ≤ (1 : Int) ∧ (1 : Int) < (a0.kids.length : Int) then
                  (Fc105 (Tree.node (a0.kids.getD 1 (DT.dflt .item)).tag (a0.kids.getD 1 (DT.dflt .item)).body (a0.kids.getD 1 (DT.dflt .item)).kids)).bind fun (y23, y24) =>
                   (Fc104 (y23, y24)).bind fun
                    | (.inl (e25, _)) =>
                     some (.inl (e25, ()))
                    | (.inr y26) =>
                     (Fc71 y26).bind fun
                      | (.inl (e27, _)) =>
                       some (.inl (e27, ()))
                      | (.inr _) =>
                       if (0 : Int) ≤ (IntKind.i64.wrap ((a0.kids.length : Int) - 1)) ∧ (IntKind.i64.wrap ((a0.kids.length : Int) - 1)) < (a0.kids.length : Int) then
                        let x28 : Int := (a0.kids.getD (IntKind.i64.wrap ((a0.kids.length : Int) - 1)).toNat (DT.dflt .item)).tag
                        let f29 : List Int := (a0.kids.getD (IntKind.i64.wrap ((a0.kids.length : Int) - 1)).toNat (DT.dflt .item)).body
                        let f30 : List Tree := (a0.kids.getD (IntKind.i64.wrap ((a0.kids.length : Int) - 1)).toNat (DT.dflt .item)).kids
                        (Fc71 (x28 == 4)).bind fun
                         | (.inl (e31, _)) =>
                          some (.inl (e31, ()))
                         | (.inr _) =>
                          if (0 : Int) ≤ (8 : Int) ∧ (8 : Int) < (y5.length : Int) then
                           some (.inr ((IntKind.i64.wrap (y5.getD 8 0)), ((a0.kids.length : Int) == 3), f29))
                          else none
                       else none
                 else none
                else
                 if (0 : Int) ≤ (IntKind.i64.wrap ((a0.kids.length : Int) - 1)) ∧ (IntKind.i64.wrap ((a0.kids.length : Int) - 1)) < (a0.kids.length : Int) then
                  let x32 : Int := (a0.kids.getD (IntKind.i64.wrap ((a0.kids.length : Int) - 1)).toNat (DT.dflt .item)).tag
                  let f33 : List Int := (a0.kids.getD (IntKind.i64.wrap ((a0.kids.length : Int) - 1)).toNat (DT.dflt .item)).body
                  let f34 : List Tree := (a0.kids.getD (IntKind.i64.wrap ((a0.kids.length : Int) - 1)).toNat (DT.dflt .item)).kids
                  (Fc71 (x32 == 4)).bind fun
                   | (.inl (e35, _)) =>
                    some (.inl (e35, ()))
                   | (.inr _) =>
                    if (0 : Int) ≤ (8 : Int) ∧ (8 : Int) < (y5.length : Int) then
                     some (.inr ((IntKind.i64.wrap (y5.getD 8 0)), ((a0.kids.length : Int) == 3), f33))
                    else none
                 else none
           else none
          else
           (Fc71 false).bind fun
            | (.inl (e36, _)) =>
             some (.inl (e36, ()))
            | (.inr _) =>
             if ((a0.kids.length : Int) == 3) = true then
              if (0 : Int) ≤ (1 : Int) ∧ (1 : Int) < (a0.kids.length : Int) then
               (Fc105 (Tree.node (a0.kids.getD 1 (DT.dflt .item)).tag (a0.kids.getD 1 (DT.dflt .item)).body (a0.kids.getD 1 (DT.dflt .item)).kids)).bind fun (y37, y38) =>
                (Fc104 (y37, y38)).bind fun
                 | (.inl (e39, _)) =>
                  some (.inl (e39, ()))
                 | (.inr y40) =>
                  (Fc71 y40).bind fun
                   | (.inl (e41, _)) =>
                    some (.inl (e41, ()))
                   | (.inr _) =>
                    if (0 : Int) ≤ (IntKind.i64.wrap ((a0.kids.length : Int) - 1)) ∧ (IntKind.i64.wrap ((a0.kids.length : Int) - 1)) < (a0.kids.length : Int) then
                     let x42 : Int := (a0.kids.getD (IntKind.i64.wrap ((a0.kids.length : Int) - 1)).toNat (DT.dflt .item)).tag
                     let f43 : List Int := (a0.kids.getD (IntKind.i64.wrap ((a0.kids.length : Int) - 1)).toNat (DT.dflt .item)).body
                     let f44 : List Tree := (a0.kids.getD (IntKind.i64.wrap ((a0.kids.length : Int) - 1)).toNat (DT.dflt .item)).kids
                     (Fc71 (x42 == 4)).bind fun
                      | (.inl (e45, _)) =>
                       some (.inl (e45, ()))
                      | (.inr _) =>
                       if (0 : Int) ≤ (8 : Int) ∧ (8 : Int) < (y5.length : Int) then
                        some (.inr ((IntKind.i64.wrap (y5.getD 8 0)), ((a0.kids.length : Int) == 3), f43))
                       else none
                    else none
              else none
             else
              if (0 : Int) ≤ (IntKind.i64.wrap ((a0.kids.length : Int) - 1)) ∧ (IntKind.i64.wrap ((a0.kids.length : Int) - 1)) < (a0.kids.length : Int) then
               let x46 : Int := (a0.kids.getD (IntKind.i64.wrap ((a0.kids.length : Int) - 1)).toNat (DT.dflt .item)).tag
               let f47 : List Int := (a0.kids.getD (IntKind.i64.wrap ((a0.kids.length : Int) - 1)).toNat (DT.dflt .item)).body
               let f48 : List Tree := (a0.kids.getD (IntKind.i64.wrap ((a0.kids.length : Int) - 1)).toNat (DT.dflt .item)).kids
               (Fc71 (x46 == 4)).bind fun
                | (.inl (e49, _)) =>
                 some (.inl (e49, ()))
                | (.inr _) =>
                 if (0 : Int) ≤ (8 : Int) ∧ (8 : Int) < (y5.length : Int) then
                  some (.inr ((IntKind.i64.wrap (y5.getD 8 0)), ((a0.kids.length : Int) == 3), f47))
                 else none
              else none
      else none
   else
    (Fc71 true).bind fun
     | (.inl (e50, _)) =>
      some (.inl (e50, ()))
     | (.inr _) =>
      if (0 : Int) ≤ (0 : Int) ∧ (0 : Int) < (a0.kids.length : Int) then
       (Fc102 (Tree.node (a0.kids.getD 0 (DT.dflt .item)).tag (a0.kids.getD 0 (DT.dflt .item)).body (a0.kids.getD 0 (DT.dflt .item)).kids)).bind fun (y51, y52) =>
        (Fc101 (y51, y52)).bind fun
         | (.inl (e53, _)) =>
          some (.inl (e53, ()))
         | (.inr y54) =>
          if ((y54.length : Int) == 9) = true then
           if (0 : Int) ≤ (8 : Int) ∧ (8 : Int) ≤ (y54.length : Int) then
            let f55 : List Int := (((((((((List.replicate 8 (0 : Int)).set 0 1).set 1 3).set 2 6).set 3 1).set 4 4).set 5 1).set 6 4128).set 7 2100)
            (Fc103 ((y54.take 8), f55)).bind fun y56 =>
             if y56 = true then
              if (0 : Int) ≤ (8 : Int) ∧ (8 : Int) < (y54.length : Int) then
               (Fc71 (decide ((y54.getD 8 0) ≥ 1))).bind fun
                | (.inl (e57, _)) =>
                 some (.inl (e57, ()))
                | (.inr _) =>
                 if ((a0.kids.length : Int) == 3) = true then
                  if (0 : Int) ≤ (1 : Int) ∧ (1 : Int) < (a0.kids.length : Int) then
                   (Fc105 (Tree.node (a0.kids.getD 1 (DT.dflt .item)).tag (a0.kids.getD 1 (DT.dflt .item)).body (a0.kids.getD 1 (DT.dflt .item)).kids)).bind fun (y58, y59) =>
                    (Fc104 (y58, y59)).bind fun
                     | (.inl (e60, _)) =>
                      some (.inl (e60, ()))
                     | (.inr y61) =>
                      (Fc71 y61).bind fun
                       | (.inl (e62, _)) =>
                        some (.inl (e62, ()))
                       | (.inr _) =>
                        if (0 : Int) ≤ (IntKind.i64.wrap ((a0.kids.length : Int) - 1)) ∧ (IntKind.i64.wrap ((a0.kids.length : Int) - 1)) < (a0.kids.length : Int) then
                         let x63 : Int := (a0.kids.getD (IntKind.i64.wrap ((a0.kids.length : Int) - 1)).toNat (DT.dflt .item)).tag
                         let f64 : List Int := (a0.kids.getD (IntKind.i64.wrap ((a0.kids.length : Int) - 1)).toNat (DT.dflt .item)).body
                         let f65 : List Tree := (a0.kids.getD (IntKind.i64.wrap ((a0.kids.length : Int) - 1)).toNat (DT.dflt .item)).kids
                         (Fc71 (x63 == 4)).bind fun
                          | (.inl (e66, _)) =>
                           some (.inl (e66, ()))
                          | (.inr _) =>
                           if (0 : Int) ≤ (8 : Int) ∧ (8 : Int) < (y54.length : Int) then
                            some (.inr ((IntKind.i64.wrap (y54.getD 8 0)), ((a0.kids.length : Int) == 3), f64))
                           else none
                        else none
                  else none
                 else
                  if (0 : Int) ≤ (IntKind.i64.wrap ((a0.kids.length : Int) - 1)) ∧ (IntKind.i64.wrap ((a0.kids.length : Int) - 1)) < (a0.kids.length : Int) then
                   let x67 : Int := (a0.kids.getD (IntKind.i64.wrap ((a0.kids.length : Int) - 1)).toNat (DT.dflt .item)).tag
                   let f68 : List Int := (a0.kids.getD (IntKind.i64.wrap ((a0.kids.length : Int) - 1)).toNat (DT.dflt .item)).body
                   let f69 : List Tree := (a0.kids.getD (IntKind.i64.wrap ((a0.kids.length : Int) - 1)).toNat (DT.dflt .item)).kids
                   (Fc71 (x67 == 4)).bind fun
                    | (.inl (e70, _)) =>
                     some (.inl (e70, ()))
                    | (.inr _) =>
                     if (0 : Int) ≤ (8 : Int) ∧ (8 : Int) < (y54.length : Int) then
                      some (.inr ((IntKind.i64.wrap (y54.getD 8 0)), ((a0.kids.length : Int) == 3), f68))
                     else none
                  else none
              else none
             else
              (Fc71 false).bind fun
               | (.inl (e71, _)) =>
                some (.inl (e71, ()))
               | (.inr _) =>
                if ((a0.kids.length : Int) == 3) = true then
                 if (0 : Int) ≤ (1 : Int) ∧ (1 : Int) < (a0.kids.length : Int) then
                  (Fc105 (Tree.node (a0.kids.getD 1 (DT.dflt .item)).tag (a0.kids.getD 1 (DT.dflt .item)).body (a0.kids.getD 1 (DT.dflt .item)).kids)).bind fun (y72, y73) =>
                   (Fc104 (y72, y73)).bind fun
                    | (.inl (e74, _)) =>
                     some (.inl (e74, ()))
                    | (.inr y75) =>
                     (Fc71 y75).bind fun
                      | (.inl (e76, _)) =>
                       some (.inl (e76, ()))
                      | (.inr _) =>
                       if (0 : Int) ≤ (IntKind.i64.wrap ((a0.kids.length : Int) - 1)) ∧ (IntKind.i64.wrap ((a0.kids.length : Int) - 1)) < (a0.kids.length : Int) then
                        let x77 : Int := (a0.kids.getD (IntKind.i64.wrap ((a0.kids.length : Int) - 1)).toNat (DT.dflt .item)).tag
                        let f78 : List Int := (a0.kids.getD (IntKind.i64.wrap ((a0.kids.length : Int) - 1)).toNat (DT.dflt .item)).body
                        let f79 : List Tree := (a0.kids.getD (IntKind.i64.wrap ((a0.kids.length : Int) - 1)).toNat (DT.dflt .item)).kids
                        (Fc71 (x77 == 4)).bind fun
                         | (.inl (e80, _)) =>
                          some (.inl (e80, ()))
                         | (.inr _) =>
                          if (0 : Int) ≤ (8 : Int) ∧ (8 : Int) < (y54.length : Int) then
                           some (.inr ((IntKind.i64.wrap (y54.getD 8 0)), ((a0.kids.length : Int) == 3), f78))
                          else none
                       else none
                 else none
                else
                 if (0 : Int) ≤ (IntKind.i64.wrap ((a0.kids.length : Int) - 1)) ∧ (IntKind.i64.wrap ((a0.kids.length : Int) - 1)) < (a0.kids.length : Int) then
                  let x81 : Int := (a0.kids.getD (IntKind.i64.wrap ((a0.kids.length : Int) - 1)).toNat (DT.dflt .item)).tag
                  let f82 : List Int := (a0.kids.getD (IntKind.i64.wrap ((a0.kids.length : Int) - 1)).toNat (DT.dflt .item)).body
                  let f83 : List Tree := (a0.kids.getD (IntKind.i64.wrap ((a0.kids.length : Int) - 1)).toNat (DT.dflt .item)).kids
                  (Fc71 (x81 == 4)).bind fun
                   | (.inl (e84, _)) =>
                    some (.inl (e84, ()))
                   | (.inr _) =>
                    if (0 : Int) ≤ (8 : Int) ∧ (8 : Int) < (y54.length : Int) then
                     some (.inr ((IntKind.i64.wrap (y54.getD 8 0)), ((a0.kids.length : Int) == 3), f82))
                    else none
                 else none
           else none
          else
           (Fc71 false).bind fun
            | (.inl (e85, _)) =>
             some (.inl (e85, ()))
            | (.inr _) =>
             if ((a0.kids.length : Int) == 3) = true then
              if (0 : Int) ≤ (1 : Int) ∧ (1 : Int) < (a0.kids.length : Int) then
               (Fc105 (Tree.node (a0.kids.getD 1 (DT.dflt .item)).tag (a0.kids.getD 1 (DT.dflt .item)).body (a0.kids.getD 1 (DT.dflt .item)).kids)).bind fun (y86, y87) =>
                (Fc104 (y86, y87)).bind fun
                 | (.inl (e88, _)) =>
                  some (.inl (e88, ()))
                 | (.inr y89) =>
                  (Fc71 y89).bind fun
                   | (.inl (e90, _)) =>
                    some (.inl (e90, ()))
                   | (.inr _) =>
                    if (0 : Int) ≤ (IntKind.i64.wrap ((a0.kids.length : Int) - 1)) ∧ (IntKind.i64.wrap ((a0.kids.length : Int) - 1)) < (a0.kids.length : Int) then
                     let x91 : Int := (a0.kids.getD (IntKind.i64.wrap ((a0.kids.length : Int) - 1)).toNat (DT.dflt .item)).tag
                     let f92 : List Int := (a0.kids.getD (IntKind.i64.wrap ((a0.kids.length : Int) - 1)).toNat (DT.dflt .item)).body
                     let f93 : List Tree := (a0.kids.getD (IntKind.i64.wrap ((a0.kids.length : Int) - 1)).toNat (DT.dflt .item)).kids
                     (Fc71 (x91 == 4)).bind fun
                      | (.inl (e94, _)) =>
                       some (.inl (e94, ()))
                      | (.inr _) =>
                       if (0 : Int) ≤ (8 : Int) ∧ (8 : Int) < (y54.length : Int) then
                        some (.inr ((IntKind.i64.wrap (y54.getD 8 0)), ((a0.kids.length : Int) == 3), f92))
                       else none
                    else none
              else none
             else
              if (0 : Int) ≤ (IntKind.i64.wrap ((a0.kids.length : Int) - 1)) ∧ (IntKind.i64.wrap ((a0.kids.length : Int) - 1)) < (a0.kids.length : Int) then
               let x95 : Int := (a0.kids.getD (IntKind.i64.wrap ((a0.kids.length : Int) - 1)).toNat (DT.dflt .item)).tag
               let f96 : List Int := (a0.kids.getD (IntKind.i64.wrap ((a0.kids.length : Int) - 1)).toNat (DT.dflt .item)).body
               let f97 : List Tree := (a0.kids.getD (IntKind.i64.wrap ((a0.kids.length : Int) - 1)).toNat (DT.dflt .item)).kids
               (Fc71 (x95 == 4)).bind fun
                | (.inl (e98, _)) =>
                 some (.inl (e98, ()))
                | (.inr _) =>
                 if (0 : Int) ≤ (8 : Int) ∧ (8 : Int) < (y54.length : Int) then
                  some (.inr ((IntKind.i64.wrap (y54.getD 8 0)), ((a0.kids.length : Int) == 3), f96))
                 else none
              else none
      else none
  else
   (Fc71 false).bind fun
    | (.inl (e99, _)) =>
     some (.inl (e99, ()))
    | (.inr _) =>
     if (0 : Int) ≤ (0 : Int) ∧ (0 : Int) < (a0.kids.length : Int) then
      (Fc102 (Tree.node (a0.kids.getD 0 (DT.dflt .item)).tag (a0.kids.getD 0 (DT.dflt .item)).body (a0.kids.getD 0 (DT.dflt .item)).kids)).bind fun (y100, y101) =>
       (Fc101 (y100, y101)).bind fun
        | (.inl (e102, _)) =>
         some (.inl (e102, ()))
        | (.inr y103) =>
         if ((y103.length : Int) == 9) = true then
          if (0 : Int) ≤ (8 : Int) ∧ (8 : Int) ≤ (y103.length : Int) then
           let f104 : List Int := (((((((((List.replicate 8 (0 : Int)).set 0 1).set 1 3).set 2 6).set 3 1).set 4 4).set 5 1).set 6 4128).set 7 2100)
           (Fc103 ((y103.take 8), f104)).bind fun y105 =>
            if y105 = true then
             if (0 : Int) ≤ (8 : Int) ∧ (8 : Int) < (y103.length : Int) then
              (Fc71 (decide ((y103.getD 8 0) ≥ 1))).bind fun
               | (.inl (e106, _)) =>
                some (.inl (e106, ()))
               | (.inr _) =>
                if ((a0.kids.length : Int) == 3) = true then
                 if (0 : Int) ≤ (1 : Int) ∧ (1 : Int) < (a0.kids.length : Int) then
                  (Fc105 (Tree.node (a0.kids.getD 1 (DT.dflt .item)).tag (a0.kids.getD 1 (DT.dflt .item)).body (a0.kids.getD 1 (DT.dflt .item)).kids)).bind fun (y107, y108) =>
                   (Fc104 (y107, y108)).bind fun
                    | (.inl (e109, _)) =>
                     some (.inl (e109, ()))
                    | (.inr y110) =>
                     (Fc71 y110).bind fun
                      | (.inl (e111, _)) =>
                       some (.inl (e111, ()))
                      | (.inr _) =>
                       if (0 : Int) ≤ (IntKind.i64.wrap ((a0.kids.length : Int) - 1)) ∧ (IntKind.i64.wrap ((a0.kids.length : Int) - 1)) < (a0.kids.length : Int) then
                        let x112 : Int := (a0.kids.getD (IntKind.i64.wrap ((a0.kids.length : Int) - 1)).toNat (DT.dflt .item)).tag
                        let f113 : List Int := (a0.kids.getD (IntKind.i64.wrap ((a0.kids.length : Int) - 1)).toNat (DT.dflt .item)).body
                        let f114 : List Tree := (a0.kids.getD (IntKind.i64.wrap ((a0.kids.length : Int) - 1)).toNat (DT.dflt .item)).kids
                        (Fc71 (x112 == 4)).bind fun
                         | (.inl (e115, _)) =>
                          some (.inl (e115, ()))
                         | (.inr _) =>
                          if (0 : Int) ≤ (8 : Int) ∧ (8 : Int) < (y103.length : Int) then
                           some (.inr ((IntKind.i64.wrap (y103.getD 8 0)), ((a0.kids.length : Int) == 3), f113))
                          else none
                       else none
                 else none
                else
                 if (0 : Int) ≤ (IntKind.i64.wrap ((a0.kids.length : Int) - 1)) ∧ (IntKind.i64.wrap ((a0.kids.length : Int) - 1)) < (a0.kids.length : Int) then
                  let x116 : Int := (a0.kids.getD (IntKind.i64.wrap ((a0.kids.length : Int) - 1)).toNat (DT.dflt .item)).tag
                  let f117 : List Int := (a0.kids.getD (IntKind.i64.wrap ((a0.kids.length : Int) - 1)).toNat (DT.dflt .item)).body
                  let f118 : List Tree := (a0.kids.getD (IntKind.i64.wrap ((a0.kids.length : Int) - 1)).toNat (DT.dflt .item)).kids
                  (Fc71 (x116 == 4)).bind fun
                   | (.inl (e119, _)) =>
                    some (.inl (e119, ()))
                   | (.inr _) =>
                    if (0 : Int) ≤ (8 : Int) ∧ (8 : Int) < (y103.length : Int) then
                     some (.inr ((IntKind.i64.wrap (y103.getD 8 0)), ((a0.kids.length : Int) == 3), f117))
                    else none
                 else none
             else none
            else
             (Fc71 false).bind fun
              | (.inl (e120, _)) =>
               some (.inl (e120, ()))
              | (.inr _) =>
               if ((a0.kids.length : Int) == 3) = true then
                if (0 : Int) ≤ (1 : Int) ∧ (1 : Int) < (a0.kids.length : Int) then
                 (Fc105 (Tree.node (a0.kids.getD 1 (DT.dflt .item)).tag (a0.kids.getD 1 (DT.dflt .item)).body (a0.kids.getD 1 (DT.dflt .item)).kids)).bind fun (y121, y122) =>
                  (Fc104 (y121, y122)).bind fun
                   | (.inl (e123, _)) =>
                    some (.inl (e123, ()))
                   | (.inr y124) =>
                    (Fc71 y124).bind fun
                     | (.inl (e125, _)) =>
                      some (.inl (e125, ()))
                     | (.inr _) =>
                      if (0 : Int) ≤ (IntKind.i64.wrap ((a0.kids.length : Int) - 1)) ∧ (IntKind.i64.wrap ((a0.kids.length : Int) - 1)) < (a0.kids.length : Int) then
                       let x126 : Int := (a0.kids.getD (IntKind.i64.wrap ((a0.kids.length : Int) - 1)).toNat (DT.dflt .item)).tag
                       let f127 : List Int := (a0.kids.getD (IntKind.i64.wrap ((a0.kids.length : Int) - 1)).toNat (DT.dflt .item)).body
                       let f128 : List Tree := (a0.kids.getD (IntKind.i64.wrap ((a0.kids.length : Int) - 1)).toNat (DT.dflt .item)).kids
                       (Fc71 (x126 == 4)).bind fun
                        | (.inl (e129, _)) =>
                         some (.inl (e129, ()))
                        | (.inr _) =>
                         if (0 : Int) ≤ (8 : Int) ∧ (8 : Int) < (y103.length : Int) then
                          some (.inr ((IntKind.i64.wrap (y103.getD 8 0)), ((a0.kids.length : Int) == 3), f127))
                         else none
                      else none
                else none
               else
                if (0 : Int) ≤ (IntKind.i64.wrap ((a0.kids.length : Int) - 1)) ∧ (IntKind.i64.wrap ((a0.kids.length : Int) - 1)) < (a0.kids.length : Int) then
                 let x130 : Int := (a0.kids.getD (IntKind.i64.wrap ((a0.kids.length : Int) - 1)).toNat (DT.dflt .item)).tag
                 let f131 : List Int := (a0.kids.getD (IntKind.i64.wrap ((a0.kids.length : Int) - 1)).toNat (DT.dflt .item)).body
                 let f132 : List Tree := (a0.kids.getD (IntKind.i64.wrap ((a0.kids.length : Int) - 1)).toNat (DT.dflt .item)).kids
                 (Fc71 (x130 == 4)).bind fun
                  | (.inl (e133, _)) =>
                   some (.inl (e133, ()))
                  | (.inr _) =>
                   if (0 : Int) ≤ (8 : Int) ∧ (8 : Int) < (y103.length : Int) then
                    some (.inr ((IntKind.i64.wrap (y103.getD 8 0)), ((a0.kids.length : Int) == 3), f131))
                   else none
                else none
          else none
         else
          (Fc71 false).bind fun
           | (.inl (e134, _)) =>
            some (.inl (e134, ()))
           | (.inr _) =>
            if ((a0.kids.length : Int) == 3) = true then
             if (0 : Int) ≤ (1 : Int) ∧ (1 : Int) < (a0.kids.length : Int) then
              (Fc105 (Tree.node (a0.kids.getD 1 (DT.dflt .item)).tag (a0.kids.getD 1 (DT.dflt .item)).body (a0.kids.getD 1 (DT.dflt .item)).kids)).bind fun (y135, y136) =>
               (Fc104 (y135, y136)).bind fun
                | (.inl (e137, _)) =>
                 some (.inl (e137, ()))
                | (.inr y138) =>
                 (Fc71 y138).bind fun
                  | (.inl (e139, _)) =>
                   some (.inl (e139, ()))
                  | (.inr _) =>
                   if (0 : Int) ≤ (IntKind.i64.wrap ((a0.kids.length : Int) - 1)) ∧ (IntKind.i64.wrap ((a0.kids.length : Int) - 1)) < (a0.kids.length : Int) then
                    let x140 : Int := (a0.kids.getD (IntKind.i64.wrap ((a0.kids.length : Int) - 1)).toNat (DT.dflt .item)).tag
                    let f141 : List Int := (a0.kids.getD (IntKind.i64.wrap ((a0.kids.length : Int) - 1)).toNat (DT.dflt .item)).body
                    let f142 : List Tree := (a0.kids.getD (IntKind.i64.wrap ((a0.kids.length : Int) - 1)).toNat (DT.dflt .item)).kids
                    (Fc71 (x140 == 4)).bind fun
                     | (.inl (e143, _)) =>
                      some (.inl (e143, ()))
                     | (.inr _) =>
                      if (0 : Int) ≤ (8 : Int) ∧ (8 : Int) < (y103.length : Int) then
                       some (.inr ((IntKind.i64.wrap (y103.getD 8 0)), ((a0.kids.length : Int) == 3), f141))
                      else none
                   else none
             else none
            else
             if (0 : Int) ≤ (IntKind.i64.wrap ((a0.kids.length : Int) - 1)) ∧ (IntKind.i64.wrap ((a0.kids.length : Int) - 1)) < (a0.kids.length : Int) then
              let x144 : Int := (a0.kids.getD (IntKind.i64.wrap ((a0.kids.length : Int) - 1)).toNat (DT.dflt .item)).tag
              let f145 : List Int := (a0.kids.getD (IntKind.i64.wrap ((a0.kids.length : Int) - 1)).toNat (DT.dflt .item)).body
              let f146 : List Tree := (a0.kids.getD (IntKind.i64.wrap ((a0.kids.length : Int) - 1)).toNat (DT.dflt .item)).kids
              (Fc71 (x144 == 4)).bind fun
               | (.inl (e147, _)) =>
                some (.inl (e147, ()))
               | (.inr _) =>
                if (0 : Int) ≤ (8 : Int) ∧ (8 : Int) < (y103.length : Int) then
                 some (.inr ((IntKind.i64.wrap (y103.getD 8 0)), ((a0.kids.length : Int) == 3), f145))
                else none
             else none
     else none

noncomputable def annc77 : Ann := .none
theorem eqc77 : ∀ x : Sc77.inT, exec ctab (ofL Ec104) 81 bodyc77 annc77 (finL ctab Sc77) (Sc77.inp.enc x) = Fc77 x := by
  intro x
  kernel_rfl
theorem callsc77 : CallsL Try.prog 77 Sc77 Fc77 := by
  refine fun_callsL (fn := Try.f77) (c := bodyc77) (ann := annc77) cc77 (by kernel_rfl) (by kernel_rfl) (by kernel_rfl) (by kernel_rfl) (by kernel_rfl) (annOk_of_cuts ?_) eqc77
  intro x hx
  exact absurd hx (by show x ∉ ([] : List (List Nat × LEnt)); simp)

theorem entc77 : EntOk Try.prog 77 (funEntL Sc77 true Fc77) := fun_okL (fn := Try.f77) (c := bodyc77) (by kernel_rfl) (by kernel_rfl) (by kernel_rfl) (by kernel_rfl) callsc77
noncomputable def Ec77 : List (Nat × Ent) := (77, (funEntL Sc77 true Fc77)) :: Ec104
theorem Ec77_ok : EntsOk Try.prog (ofL Ec77) := .cons entc77 Ec104_ok

/-! ### barbican/cert.read -/
noncomputable def bodyc42 : Code := (Try.f42.body).getD .skip
abbrev Sc42 : FL := ⟨⟨[], [.env 0 (.dat .item)], []⟩, 1, [(.panic 75 0, ⟨[], [], []⟩), (.ret, ⟨[], [.env 0 (.agg [.int .u64, .str, .str, .full 1, .full 3, .full 4]), .reg 1 (.row 5 .u8), .reg 3 (.rowd 45 (.pair (.int .i64) (.pair .bool (.sl (.int .u8))))), .reg 4 (.row 5 .u8)], [(1, .env 0 3), (3, .env 0 4), (4, .env 0 5)]⟩)], [.cell 2 26], true⟩
noncomputable def cc42 : Ctx Try.prog := ⟨ctab, ofL Ec77, ctabOk, Ec77_ok, cdep, cord⟩
abbrev lc42_0 : Lay := ⟨[(2, .ptr 2 0 6), (6, .ptr 6 0 6)], [.env 3 (.c (.fz .item)), .env 111 (.c (.fz .item)), .env 112 (.c (.int .i64)), .env 113 (.c (.int .i64)), .reg 2 (.cells [.int .u64, .str, .str, .nils, .nils, .nils]), .reg 6 (.cells [.int .u64, .str, .str, .full 3086, .full 600388, .nils]), .reg 600388 (.rowd 45 (.pair (.int .i64) (.pair .bool (.sl (.int .u8))))), .reg 3086 (.row 5 .u8)], [(2, .env 2 0), (6, .env 6 0), (3086, .reg 6 3), (600388, .reg 6 4)]⟩
abbrev oc42_0 : List (AExit × Lay) := [(.panic 75 0, ⟨[], [], []⟩), (.exit 0, ⟨[(2, .ptr 2 0 6), (6, .ptr 6 0 6)], [.env 3 (.c (.fz .item)), .reg 2 (.cells [.int .u64, .str, .str, .nils, .nils, .nils]), .reg 6 (.cells [.int .u64, .str, .str, .full 3086, .full 600388, .nils]), .reg 3086 (.row 5 .u8), .reg 600388 (.rowd 45 (.pair (.int .i64) (.pair .bool (.sl (.int .u8)))))], [(2, .env 2 0), (6, .env 6 0), (3086, .reg 6 3), (600388, .reg 6 4)]⟩)]
noncomputable def stepc42_0 : (List Tree) × (List Tree) × Int × Int × (Int × ByteArray × ByteArray × Unit × Unit × Unit) × (Int × ByteArray × ByteArray × Unit × Unit × Unit) × (List (Int × (Bool × (List Int)))) × List Int → Option (((List Tree) × (List Tree) × Int × Int × (Int × ByteArray × ByteArray × Unit × Unit × Unit) × (Int × ByteArray × ByteArray × Unit × Unit × Unit) × (List (Int × (Bool × (List Int)))) × List Int) ⊕ ((Int × (Unit)) ⊕ ((List Tree) × (Int × ByteArray × ByteArray × Unit × Unit × Unit) × (Int × ByteArray × ByteArray × Unit × Unit × Unit) × List Int × (List (Int × (Bool × (List Int)))))))
  | (t3, t111, t112, t113, r2, r6, r600388, r3086) =>
  if (decide (t113 < t112)) = true then
   if (0 : Int) ≤ t113 ∧ t113 < (t111.length : Int) then
    (Fc77 (Tree.node (t111.getD t113.toNat (DT.dflt .item)).tag (t111.getD t113.toNat (DT.dflt .item)).body (t111.getD t113.toNat (DT.dflt .item)).kids)).bind fun
     | (.inl (e56, _)) =>
      some (.inr (.inl (e56, ())))
     | (.inr y57) =>
      let f58 : List (Int × (Bool × (List Int))) := ([(y57.1, (y57.2.1, y57.2.2))] : List (Int × (Bool × (List Int))))
      if okBytes (r600388.length + f58.length) 40 then
       some (.inl (t3, t111, t112, (IntKind.i64.wrap (t113 + 1)), (r2.1, r2.2.1, r2.2.2.1, (), (), ()), (r6.1, r6.2.1, r6.2.2.1, (), (), ()), (r600388 ++ f58), r3086))
      else none
   else none
  else
   some (.inr (.inr (t3, (r2.1, r2.2.1, r2.2.2.1, (), (), ()), (r6.1, r6.2.1, r6.2.2.1, (), (), ()), r3086, r600388)))

noncomputable def annc42_0 : Ann := .none
noncomputable def Fc42 : Tree → Option ((Int × (Unit)) ⊕ ((Int × ByteArray × ByteArray × Unit × Unit × Unit) × List Int × (List (Int × (Bool × (List Int)))) × List Int))
  | a0 =>
  (Fc70 ((Tree.node a0.tag a0.body a0.kids), 48, 3)).bind fun
   | (.inl (e1, _)) =>
    some (.inl (e1, ()))
   | (.inr y2) =>
    if (0 : Int) ≤ (0 : Int) ∧ (0 : Int) < (y2.length : Int) then
     if ((y2.getD 0 (DT.dflt .item)).tag == 48) = true then
      if (((y2.getD 0 (DT.dflt .item)).kids.length : Int) == 7) = false then
       (Fc71 (((y2.getD 0 (DT.dflt .item)).kids.length : Int) == 8)).bind fun
        | (.inl (e3, _)) =>
         some (.inl (e3, ()))
        | (.inr _) =>
         if (0 : Int) ≤ (0 : Int) ∧ (0 : Int) < ((y2.getD 0 (DT.dflt .item)).kids.length : Int) then
          let x4 : Int := ((y2.getD 0 (DT.dflt .item)).kids.getD 0 (DT.dflt .item)).tag
          let f5 : List Int := ((y2.getD 0 (DT.dflt .item)).kids.getD 0 (DT.dflt .item)).body
          let f6 : List Tree := ((y2.getD 0 (DT.dflt .item)).kids.getD 0 (DT.dflt .item)).kids
          (Fc70 ((Tree.node x4 f5 f6), 160, 1)).bind fun
           | (.inl (e7, _)) =>
            some (.inl (e7, ()))
           | (.inr y8) =>
            if (0 : Int) ≤ (0 : Int) ∧ (0 : Int) < (y8.length : Int) then
             (Fc52 (Tree.node (y8.getD 0 (DT.dflt .item)).tag (y8.getD 0 (DT.dflt .item)).body (y8.getD 0 (DT.dflt .item)).kids)).bind fun (y9, y10) =>
              (Fc72 (y9, y10)).bind fun
               | (.inl (e11, _)) =>
                some (.inl (e11, ()))
               | (.inr y12) =>
                (Fc71 (y12 == 2)).bind fun
                 | (.inl (e13, _)) =>
                  some (.inl (e13, ()))
                 | (.inr _) =>
                  if (0 : Int) ≤ (1 : Int) ∧ (1 : Int) < ((y2.getD 0 (DT.dflt .item)).kids.length : Int) then
                   let x14 : Int := ((y2.getD 0 (DT.dflt .item)).kids.getD 1 (DT.dflt .item)).tag
                   let f15 : List Int := ((y2.getD 0 (DT.dflt .item)).kids.getD 1 (DT.dflt .item)).body
                   let f16 : List Tree := ((y2.getD 0 (DT.dflt .item)).kids.getD 1 (DT.dflt .item)).kids
                   (Fc52 (Tree.node x14 f15 f16)).bind fun (y17, y18) =>
                    (Fc72 (y17, y18)).bind fun
                     | (.inl (e19, _)) =>
                      some (.inl (e19, ()))
                     | (.inr y20) =>
                      if (0 : Int) ≤ (2 : Int) ∧ (2 : Int) < ((y2.getD 0 (DT.dflt .item)).kids.length : Int) then
                       let x21 : Int := ((y2.getD 0 (DT.dflt .item)).kids.getD 2 (DT.dflt .item)).tag
                       let f22 : List Int := ((y2.getD 0 (DT.dflt .item)).kids.getD 2 (DT.dflt .item)).body
                       let f23 : List Tree := ((y2.getD 0 (DT.dflt .item)).kids.getD 2 (DT.dflt .item)).kids
                       (Fc48 ()).bind fun y24 =>
                        (Fc73 ((Tree.node x21 f22 f23), (Tree.node y24.tag y24.body y24.kids))).bind fun
                         | (.inl _) =>
                          if (0 : Int) ≤ (3 : Int) ∧ (3 : Int) < ((y2.getD 0 (DT.dflt .item)).kids.length : Int) then
                           let x25 : Int := ((y2.getD 0 (DT.dflt .item)).kids.getD 3 (DT.dflt .item)).tag
                           let f26 : List Int := ((y2.getD 0 (DT.dflt .item)).kids.getD 3 (DT.dflt .item)).body
                           let f27 : List Tree := ((y2.getD 0 (DT.dflt .item)).kids.getD 3 (DT.dflt .item)).kids
                           (Fc74 (Tree.node x25 f26 f27)).bind fun
                            | (.inl (e28, _)) =>
                             some (.inl (e28, ()))
                            | (.inr y29) =>
                             if (0 : Int) ≤ (4 : Int) ∧ (4 : Int) < ((y2.getD 0 (DT.dflt .item)).kids.length : Int) then
                              let x30 : Int := ((y2.getD 0 (DT.dflt .item)).kids.getD 4 (DT.dflt .item)).tag
                              let f31 : List Int := ((y2.getD 0 (DT.dflt .item)).kids.getD 4 (DT.dflt .item)).body
                              let f32 : List Tree := ((y2.getD 0 (DT.dflt .item)).kids.getD 4 (DT.dflt .item)).kids
                              (Fc75 ()).bind fun y33 =>
                               (Fc73 ((Tree.node x30 f31 f32), (Tree.node y33.tag y33.body y33.kids))).bind fun
                                | (.inl _) =>
                                 if (0 : Int) ≤ (5 : Int) ∧ (5 : Int) < ((y2.getD 0 (DT.dflt .item)).kids.length : Int) then
                                  let x34 : Int := ((y2.getD 0 (DT.dflt .item)).kids.getD 5 (DT.dflt .item)).tag
                                  let f35 : List Int := ((y2.getD 0 (DT.dflt .item)).kids.getD 5 (DT.dflt .item)).body
                                  let f36 : List Tree := ((y2.getD 0 (DT.dflt .item)).kids.getD 5 (DT.dflt .item)).kids
                                  (Fc74 (Tree.node x34 f35 f36)).bind fun
                                   | (.inl (e37, _)) =>
                                    some (.inl (e37, ()))
                                   | (.inr y38) =>
                                    if (0 : Int) ≤ (6 : Int) ∧ (6 : Int) < ((y2.getD 0 (DT.dflt .item)).kids.length : Int) then
                                     let x39 : Int := ((y2.getD 0 (DT.dflt .item)).kids.getD 6 (DT.dflt .item)).tag
                                     let f40 : List Int := ((y2.getD 0 (DT.dflt .item)).kids.getD 6 (DT.dflt .item)).body
                                     let f41 : List Tree := ((y2.getD 0 (DT.dflt .item)).kids.getD 6 (DT.dflt .item)).kids
                                     (Fc70 ((Tree.node x39 f40 f41), 48, 2)).bind fun
                                      | (.inl (e42, _)) =>
                                       some (.inl (e42, ()))
                                      | (.inr y43) =>
                                       if (0 : Int) ≤ (0 : Int) ∧ (0 : Int) < (y43.length : Int) then
                                        (Fc48 ()).bind fun y44 =>
                                         (Fc73 ((Tree.node (y43.getD 0 (DT.dflt .item)).tag (y43.getD 0 (DT.dflt .item)).body (y43.getD 0 (DT.dflt .item)).kids), (Tree.node y44.tag y44.body y44.kids))).bind fun
                                          | (.inl _) =>
                                           if (0 : Int) ≤ (1 : Int) ∧ (1 : Int) < (y43.length : Int) then
                                            (Fc53 (Tree.node (y43.getD 1 (DT.dflt .item)).tag (y43.getD 1 (DT.dflt .item)).body (y43.getD 1 (DT.dflt .item)).kids)).bind fun (y45, y46) =>
                                             (Fc76 (y45, y46)).bind fun
                                              | (.inl (e47, _)) =>
                                               some (.inl (e47, ()))
                                              | (.inr y48) =>
                                               if (((y2.getD 0 (DT.dflt .item)).kids.length : Int) == 8) = true then
                                                if (0 : Int) ≤ (7 : Int) ∧ (7 : Int) < ((y2.getD 0 (DT.dflt .item)).kids.length : Int) then
                                                 let x49 : Int := ((y2.getD 0 (DT.dflt .item)).kids.getD 7 (DT.dflt .item)).tag
                                                 let f50 : List Int := ((y2.getD 0 (DT.dflt .item)).kids.getD 7 (DT.dflt .item)).body
                                                 let f51 : List Tree := ((y2.getD 0 (DT.dflt .item)).kids.getD 7 (DT.dflt .item)).kids
                                                 (Fc70 ((Tree.node x49 f50 f51), 163, 1)).bind fun
                                                  | (.inl (e52, _)) =>
                                                   some (.inl (e52, ()))
                                                  | (.inr y53) =>
                                                   if (0 : Int) ≤ (0 : Int) ∧ (0 : Int) < (y53.length : Int) then
                                                    if ((y53.getD 0 (DT.dflt .item)).tag == 48) = true then
                                                     let x54 : Bool := (decide (((y53.getD 0 (DT.dflt .item)).kids.length : Int) > 0))
                                                     (Fc71 x54).bind fun
                                                      | (.inl (e55, _)) =>
                                                       some (.inl (e55, ()))
                                                      | (.inr _) =>
                                                       (loopO stepc42_0 (y2, (y53.getD 0 (DT.dflt .item)).kids, ((y53.getD 0 (DT.dflt .item)).kids.length : Int), 0, (0, ByteArray.empty, ByteArray.empty, (), (), ()), (y20, y29, y38, (), (), ()), ([] : List (Int × (Bool × (List Int)))), y48)).bind fun
                                                        | (.inl (e59, _)) =>
                                                         some (.inl (e59, ()))
                                                        | (.inr (z60, z61, z62, z63, z64)) =>
                                                         if (0 : Int) ≤ (1 : Int) ∧ (1 : Int) < (z60.length : Int) then
                                                          (Fc48 ()).bind fun y65 =>
                                                           (Fc73 ((Tree.node (z60.getD 1 (DT.dflt .item)).tag (z60.getD 1 (DT.dflt .item)).body (z60.getD 1 (DT.dflt .item)).kids), (Tree.node y65.tag y65.body y65.kids))).bind fun
                                                            | (.inl _) =>
                                                             if (0 : Int) ≤ (2 : Int) ∧ (2 : Int) < (z60.length : Int) then
                                                              (Fc53 (Tree.node (z60.getD 2 (DT.dflt .item)).tag (z60.getD 2 (DT.dflt .item)).body (z60.getD 2 (DT.dflt .item)).kids)).bind fun (y66, y67) =>
                                                               (Fc76 (y66, y67)).bind fun
                                                                | (.inl (e68, _)) =>
                                                                 some (.inl (e68, ()))
                                                                | (.inr y69) =>
                                                                 some (.inr ((z62.1, z62.2.1, z62.2.2.1, (), (), ()), z63, z64, y69))
                                                             else none
                                                            | (.inr (e70, _)) =>
                                                             some (.inl (e70, ()))
                                                         else none
                                                    else
                                                     (Fc71 false).bind fun
                                                      | (.inl (e71, _)) =>
                                                       some (.inl (e71, ()))
                                                      | (.inr _) =>
                                                       (loopO stepc42_0 (y2, (y53.getD 0 (DT.dflt .item)).kids, ((y53.getD 0 (DT.dflt .item)).kids.length : Int), 0, (0, ByteArray.empty, ByteArray.empty, (), (), ()), (y20, y29, y38, (), (), ()), ([] : List (Int × (Bool × (List Int)))), y48)).bind fun
                                                        | (.inl (e72, _)) =>
                                                         some (.inl (e72, ()))
                                                        | (.inr (z73, z74, z75, z76, z77)) =>
                                                         if (0 : Int) ≤ (1 : Int) ∧ (1 : Int) < (z73.length : Int) then
                                                          (Fc48 ()).bind fun y78 =>
                                                           (Fc73 ((Tree.node (z73.getD 1 (DT.dflt .item)).tag (z73.getD 1 (DT.dflt .item)).body (z73.getD 1 (DT.dflt .item)).kids), (Tree.node y78.tag y78.body y78.kids))).bind fun
                                                            | (.inl _) =>
                                                             if (0 : Int) ≤ (2 : Int) ∧ (2 : Int) < (z73.length : Int) then
                                                              (Fc53 (Tree.node (z73.getD 2 (DT.dflt .item)).tag (z73.getD 2 (DT.dflt .item)).body (z73.getD 2 (DT.dflt .item)).kids)).bind fun (y79, y80) =>
                                                               (Fc76 (y79, y80)).bind fun
                                                                | (.inl (e81, _)) =>
                                                                 some (.inl (e81, ()))
                                                                | (.inr y82) =>
                                                                 some (.inr ((z75.1, z75.2.1, z75.2.2.1, (), (), ()), z76, z77, y82))
                                                             else none
                                                            | (.inr (e83, _)) =>
                                                             some (.inl (e83, ()))
                                                         else none
                                                   else none
                                                else none
                                               else
                                                if (0 : Int) ≤ (1 : Int) ∧ (1 : Int) < (y2.length : Int) then
                                                 (Fc48 ()).bind fun y84 =>
                                                  (Fc73 ((Tree.node (y2.getD 1 (DT.dflt .item)).tag (y2.getD 1 (DT.dflt .item)).body (y2.getD 1 (DT.dflt .item)).kids), (Tree.node y84.tag y84.body y84.kids))).bind fun
                                                   | (.inl _) =>
                                                    if (0 : Int) ≤ (2 : Int) ∧ (2 : Int) < (y2.length : Int) then
                                                     (Fc53 (Tree.node (y2.getD 2 (DT.dflt .item)).tag (y2.getD 2 (DT.dflt .item)).body (y2.getD 2 (DT.dflt .item)).kids)).bind fun (y85, y86) =>
                                                      (Fc76 (y85, y86)).bind fun
                                                       | (.inl (e87, _)) =>
                                                        some (.inl (e87, ()))
                                                       | (.inr y88) =>
                                                        some (.inr ((y20, y29, y38, (), (), ()), y48, ([] : List (Int × (Bool × (List Int)))), y88))
                                                    else none
                                                   | (.inr (e89, _)) =>
                                                    some (.inl (e89, ()))
                                                else none
                                           else none
                                          | (.inr (e90, _)) =>
                                           some (.inl (e90, ()))
                                       else none
                                    else none
                                 else none
                                | (.inr (e91, _)) =>
                                 some (.inl (e91, ()))
                             else none
                          else none
                         | (.inr (e92, _)) =>
                          some (.inl (e92, ()))
                      else none
                  else none
            else none
         else none
      else
       (Fc71 true).bind fun
        | (.inl (e93, _)) =>
         some (.inl (e93, ()))
        | (.inr _) =>
         if (0 : Int) ≤ (0 : Int) ∧ (0 : Int) < ((y2.getD 0 (DT.dflt .item)).kids.length : Int) then
          let x94 : Int := ((y2.getD 0 (DT.dflt .item)).kids.getD 0 (DT.dflt .item)).tag
          let f95 : List Int := ((y2.getD 0 (DT.dflt .item)).kids.getD 0 (DT.dflt .item)).body
          let f96 : List Tree := ((y2.getD 0 (DT.dflt .item)).kids.getD 0 (DT.dflt .item)).kids
          (Fc70 ((Tree.node x94 f95 f96), 160, 1)).bind fun
           | (.inl (e97, _)) =>
            some (.inl (e97, ()))
           | (.inr y98) =>
            if (0 : Int) ≤ (0 : Int) ∧ (0 : Int) < (y98.length : Int) then
             (Fc52 (Tree.node (y98.getD 0 (DT.dflt .item)).tag (y98.getD 0 (DT.dflt .item)).body (y98.getD 0 (DT.dflt .item)).kids)).bind fun (y99, y100) =>
              (Fc72 (y99, y100)).bind fun
               | (.inl (e101, _)) =>
                some (.inl (e101, ()))
               | (.inr y102) =>
                (Fc71 (y102 == 2)).bind fun
                 | (.inl (e103, _)) =>
                  some (.inl (e103, ()))
                 | (.inr _) =>
                  if (0 : Int) ≤ (1 : Int) ∧ (1 : Int) < ((y2.getD 0 (DT.dflt .item)).kids.length : Int) then
                   let x104 : Int := ((y2.getD 0 (DT.dflt .item)).kids.getD 1 (DT.dflt .item)).tag
                   let f105 : List Int := ((y2.getD 0 (DT.dflt .item)).kids.getD 1 (DT.dflt .item)).body
                   let f106 : List Tree := ((y2.getD 0 (DT.dflt .item)).kids.getD 1 (DT.dflt .item)).kids
                   (Fc52 (Tree.node x104 f105 f106)).bind fun (y107, y108) =>
                    (Fc72 (y107, y108)).bind fun
                     | (.inl (e109, _)) =>
                      some (.inl (e109, ()))
                     | (.inr y110) =>
                      if (0 : Int) ≤ (2 : Int) ∧ (2 : Int) < ((y2.getD 0 (DT.dflt .item)).kids.length : Int) then
                       let x111 : Int := ((y2.getD 0 (DT.dflt .item)).kids.getD 2 (DT.dflt .item)).tag
                       let f112 : List Int := ((y2.getD 0 (DT.dflt .item)).kids.getD 2 (DT.dflt .item)).body
                       let f113 : List Tree := ((y2.getD 0 (DT.dflt .item)).kids.getD 2 (DT.dflt .item)).kids
                       (Fc48 ()).bind fun y114 =>
                        (Fc73 ((Tree.node x111 f112 f113), (Tree.node y114.tag y114.body y114.kids))).bind fun
                         | (.inl _) =>
                          if (0 : Int) ≤ (3 : Int) ∧ (3 : Int) < ((y2.getD 0 (DT.dflt .item)).kids.length : Int) then
                           let x115 : Int := ((y2.getD 0 (DT.dflt .item)).kids.getD 3 (DT.dflt .item)).tag
                           let f116 : List Int := ((y2.getD 0 (DT.dflt .item)).kids.getD 3 (DT.dflt .item)).body
                           let f117 : List Tree := ((y2.getD 0 (DT.dflt .item)).kids.getD 3 (DT.dflt .item)).kids
                           (Fc74 (Tree.node x115 f116 f117)).bind fun
                            | (.inl (e118, _)) =>
                             some (.inl (e118, ()))
                            | (.inr y119) =>
                             if (0 : Int) ≤ (4 : Int) ∧ (4 : Int) < ((y2.getD 0 (DT.dflt .item)).kids.length : Int) then
                              let x120 : Int := ((y2.getD 0 (DT.dflt .item)).kids.getD 4 (DT.dflt .item)).tag
                              let f121 : List Int := ((y2.getD 0 (DT.dflt .item)).kids.getD 4 (DT.dflt .item)).body
                              let f122 : List Tree := ((y2.getD 0 (DT.dflt .item)).kids.getD 4 (DT.dflt .item)).kids
                              (Fc75 ()).bind fun y123 =>
                               (Fc73 ((Tree.node x120 f121 f122), (Tree.node y123.tag y123.body y123.kids))).bind fun
                                | (.inl _) =>
                                 if (0 : Int) ≤ (5 : Int) ∧ (5 : Int) < ((y2.getD 0 (DT.dflt .item)).kids.length : Int) then
                                  let x124 : Int := ((y2.getD 0 (DT.dflt .item)).kids.getD 5 (DT.dflt .item)).tag
                                  let f125 : List Int := ((y2.getD 0 (DT.dflt .item)).kids.getD 5 (DT.dflt .item)).body
                                  let f126 : List Tree := ((y2.getD 0 (DT.dflt .item)).kids.getD 5 (DT.dflt .item)).kids
                                  (Fc74 (Tree.node x124 f125 f126)).bind fun
                                   | (.inl (e127, _)) =>
                                    some (.inl (e127, ()))
                                   | (.inr y128) =>
                                    if (0 : Int) ≤ (6 : Int) ∧ (6 : Int) < ((y2.getD 0 (DT.dflt .item)).kids.length : Int) then
                                     let x129 : Int := ((y2.getD 0 (DT.dflt .item)).kids.getD 6 (DT.dflt .item)).tag
                                     let f130 : List Int := ((y2.getD 0 (DT.dflt .item)).kids.getD 6 (DT.dflt .item)).body
                                     let f131 : List Tree := ((y2.getD 0 (DT.dflt .item)).kids.getD 6 (DT.dflt .item)).kids
                                     (Fc70 ((Tree.node x129 f130 f131), 48, 2)).bind fun
                                      | (.inl (e132, _)) =>
                                       some (.inl (e132, ()))
                                      | (.inr y133) =>
                                       if (0 : Int) ≤ (0 : Int) ∧ (0 : Int) < (y133.length : Int) then
                                        (Fc48 ()).bind fun y134 =>
                                         (Fc73 ((Tree.node (y133.getD 0 (DT.dflt .item)).tag (y133.getD 0 (DT.dflt .item)).body (y133.getD 0 (DT.dflt .item)).kids), (Tree.node y134.tag y134.body y134.kids))).bind fun
                                          | (.inl _) =>
                                           if (0 : Int) ≤ (1 : Int) ∧ (1 : Int) < (y133.length : Int) then
                                            (Fc53 (Tree.node (y133.getD 1 (DT.dflt .item)).tag (y133.getD 1 (DT.dflt .item)).body (y133.getD 1 (DT.dflt .item)).kids)).bind fun (y135, y136) =>
                                             (Fc76 (y135, y136)).bind fun
                                              | (.inl (e137, _)) =>
                                               some (.inl (e137, ()))
                                              | (.inr y138) =>
                                               if (((y2.getD 0 (DT.dflt .item)).kids.length : Int) == 8) = true then
                                                if (0 : Int) ≤ (7 : Int) ∧ (7 : Int) < ((y2.getD 0 (DT.dflt .item)).kids.length : Int) then
                                                 let x139 : Int := ((y2.getD 0 (DT.dflt .item)).kids.getD 7 (DT.dflt .item)).tag
                                                 let f140 : List Int := ((y2.getD 0 (DT.dflt .item)).kids.getD 7 (DT.dflt .item)).body
                                                 let f141 : List Tree := ((y2.getD 0 (DT.dflt .item)).kids.getD 7 (DT.dflt .item)).kids
                                                 (Fc70 ((Tree.node x139 f140 f141), 163, 1)).bind fun
                                                  | (.inl (e142, _)) =>
                                                   some (.inl (e142, ()))
                                                  | (.inr y143) =>
                                                   if (0 : Int) ≤ (0 : Int) ∧ (0 : Int) < (y143.length : Int) then
                                                    if ((y143.getD 0 (DT.dflt .item)).tag == 48) = true then
                                                     let x144 : Bool := (decide (((y143.getD 0 (DT.dflt .item)).kids.length : Int) > 0))
                                                     (Fc71 x144).bind fun
                                                      | (.inl (e145, _)) =>
                                                       some (.inl (e145, ()))
                                                      | (.inr _) =>
                                                       (loopO stepc42_0 (y2, (y143.getD 0 (DT.dflt .item)).kids, ((y143.getD 0 (DT.dflt .item)).kids.length : Int), 0, (0, ByteArray.empty, ByteArray.empty, (), (), ()), (y110, y119, y128, (), (), ()), ([] : List (Int × (Bool × (List Int)))), y138)).bind fun
                                                        | (.inl (e146, _)) =>
                                                         some (.inl (e146, ()))
                                                        | (.inr (z147, z148, z149, z150, z151)) =>
                                                         if (0 : Int) ≤ (1 : Int) ∧ (1 : Int) < (z147.length : Int) then
                                                          (Fc48 ()).bind fun y152 =>
                                                           (Fc73 ((Tree.node (z147.getD 1 (DT.dflt .item)).tag (z147.getD 1 (DT.dflt .item)).body (z147.getD 1 (DT.dflt .item)).kids), (Tree.node y152.tag y152.body y152.kids))).bind fun
                                                            | (.inl _) =>
                                                             if (0 : Int) ≤ (2 : Int) ∧ (2 : Int) < (z147.length : Int) then
                                                              (Fc53 (Tree.node (z147.getD 2 (DT.dflt .item)).tag (z147.getD 2 (DT.dflt .item)).body (z147.getD 2 (DT.dflt .item)).kids)).bind fun (y153, y154) =>
                                                               (Fc76 (y153, y154)).bind fun
                                                                | (.inl (e155, _)) =>
                                                                 some (.inl (e155, ()))
                                                                | (.inr y156) =>
                                                                 some (.inr ((z149.1, z149.2.1, z149.2.2.1, (), (), ()), z150, z151, y156))
                                                             else none
                                                            | (.inr (e157, _)) =>
                                                             some (.inl (e157, ()))
                                                         else none
                                                    else
                                                     (Fc71 false).bind fun
                                                      | (.inl (e158, _)) =>
                                                       some (.inl (e158, ()))
                                                      | (.inr _) =>
                                                       (loopO stepc42_0 (y2, (y143.getD 0 (DT.dflt .item)).kids, ((y143.getD 0 (DT.dflt .item)).kids.length : Int), 0, (0, ByteArray.empty, ByteArray.empty, (), (), ()), (y110, y119, y128, (), (), ()), ([] : List (Int × (Bool × (List Int)))), y138)).bind fun
                                                        | (.inl (e159, _)) =>
                                                         some (.inl (e159, ()))
                                                        | (.inr (z160, z161, z162, z163, z164)) =>
                                                         if (0 : Int) ≤ (1 : Int) ∧ (1 : Int) < (z160.length : Int) then
                                                          (Fc48 ()).bind fun y165 =>
                                                           (Fc73 ((Tree.node (z160.getD 1 (DT.dflt .item)).tag (z160.getD 1 (DT.dflt .item)).body (z160.getD 1 (DT.dflt .item)).kids), (Tree.node y165.tag y165.body y165.kids))).bind fun
                                                            | (.inl _) =>
                                                             if (0 : Int) ≤ (2 : Int) ∧ (2 : Int) < (z160.length : Int) then
                                                              (Fc53 (Tree.node (z160.getD 2 (DT.dflt .item)).tag (z160.getD 2 (DT.dflt .item)).body (z160.getD 2 (DT.dflt .item)).kids)).bind fun (y166, y167) =>
                                                               (Fc76 (y166, y167)).bind fun
                                                                | (.inl (e168, _)) =>
                                                                 some (.inl (e168, ()))
                                                                | (.inr y169) =>
                                                                 some (.inr ((z162.1, z162.2.1, z162.2.2.1, (), (), ()), z163, z164, y169))
                                                             else none
                                                            | (.inr (e170, _)) =>
                                                             some (.inl (e170, ()))
                                                         else none
                                                   else none
                                                else none
                                               else
                                                if (0 : Int) ≤ (1 : Int) ∧ (1 : Int) < (y2.length : Int) then
                                                 (Fc48 ()).bind fun y171 =>
                                                  (Fc73 ((Tree.node (y2.getD 1 (DT.dflt .item)).tag (y2.getD 1 (DT.dflt .item)).body (y2.getD 1 (DT.dflt .item)).kids), (Tree.node y171.tag y171.body y171.kids))).bind fun
                                                   | (.inl _) =>
                                                    if (0 : Int) ≤ (2 : Int) ∧ (2 : Int) < (y2.length : Int) then
                                                     (Fc53 (Tree.node (y2.getD 2 (DT.dflt .item)).tag (y2.getD 2 (DT.dflt .item)).body (y2.getD 2 (DT.dflt .item)).kids)).bind fun (y172, y173) =>
                                                      (Fc76 (y172, y173)).bind fun
                                                       | (.inl (e174, _)) =>
                                                        some (.inl (e174, ()))
                                                       | (.inr y175) =>
                                                        some (.inr ((y110, y119, y128, (), (), ()), y138, ([] : List (Int × (Bool × (List Int)))), y175))
                                                    else none
                                                   | (.inr (e176, _)) =>
                                                    some (.inl (e176, ()))
                                                else none
                                           else none
                                          | (.inr (e177, _)) =>
                                           some (.inl (e177, ()))
                                       else none
                                    else none
                                 else none
                                | (.inr (e178, _)) =>
                                 some (.inl (e178, ()))
                             else none
                          else none
                         | (.inr (e179, _)) =>
                          some (.inl (e179, ()))
                      else none
                  else none
            else none
         else none
     else
      (Fc71 false).bind fun
       | (.inl (e180, _)) =>
        some (.inl (e180, ()))
       | (.inr _) =>
        if (0 : Int) ≤ (0 : Int) ∧ (0 : Int) < ((y2.getD 0 (DT.dflt .item)).kids.length : Int) then
         let x181 : Int := ((y2.getD 0 (DT.dflt .item)).kids.getD 0 (DT.dflt .item)).tag
         let f182 : List Int := ((y2.getD 0 (DT.dflt .item)).kids.getD 0 (DT.dflt .item)).body
         let f183 : List Tree := ((y2.getD 0 (DT.dflt .item)).kids.getD 0 (DT.dflt .item)).kids
         (Fc70 ((Tree.node x181 f182 f183), 160, 1)).bind fun
          | (.inl (e184, _)) =>
           some (.inl (e184, ()))
          | (.inr y185) =>
           if (0 : Int) ≤ (0 : Int) ∧ (0 : Int) < (y185.length : Int) then
            (Fc52 (Tree.node (y185.getD 0 (DT.dflt .item)).tag (y185.getD 0 (DT.dflt .item)).body (y185.getD 0 (DT.dflt .item)).kids)).bind fun (y186, y187) =>
             (Fc72 (y186, y187)).bind fun
              | (.inl (e188, _)) =>
               some (.inl (e188, ()))
              | (.inr y189) =>
               (Fc71 (y189 == 2)).bind fun
                | (.inl (e190, _)) =>
                 some (.inl (e190, ()))
                | (.inr _) =>
                 if (0 : Int) ≤ (1 : Int) ∧ (1 : Int) < ((y2.getD 0 (DT.dflt .item)).kids.length : Int) then
                  let x191 : Int := ((y2.getD 0 (DT.dflt .item)).kids.getD 1 (DT.dflt .item)).tag
                  let f192 : List Int := ((y2.getD 0 (DT.dflt .item)).kids.getD 1 (DT.dflt .item)).body
                  let f193 : List Tree := ((y2.getD 0 (DT.dflt .item)).kids.getD 1 (DT.dflt .item)).kids
                  (Fc52 (Tree.node x191 f192 f193)).bind fun (y194, y195) =>
                   (Fc72 (y194, y195)).bind fun
                    | (.inl (e196, _)) =>
                     some (.inl (e196, ()))
                    | (.inr y197) =>
                     if (0 : Int) ≤ (2 : Int) ∧ (2 : Int) < ((y2.getD 0 (DT.dflt .item)).kids.length : Int) then
                      let x198 : Int := ((y2.getD 0 (DT.dflt .item)).kids.getD 2 (DT.dflt .item)).tag
                      let f199 : List Int := ((y2.getD 0 (DT.dflt .item)).kids.getD 2 (DT.dflt .item)).body
                      let f200 : List Tree := ((y2.getD 0 (DT.dflt .item)).kids.getD 2 (DT.dflt .item)).kids
                      (Fc48 ()).bind fun y201 =>
                       (Fc73 ((Tree.node x198 f199 f200), (Tree.node y201.tag y201.body y201.kids))).bind fun
                        | (.inl _) =>
                         if (0 : Int) ≤ (3 : Int) ∧ (3 : Int) < ((y2.getD 0 (DT.dflt .item)).kids.length : Int) then
                          let x202 : Int := ((y2.getD 0 (DT.dflt .item)).kids.getD 3 (DT.dflt .item)).tag
                          let f203 : List Int := ((y2.getD 0 (DT.dflt .item)).kids.getD 3 (DT.dflt .item)).body
                          let f204 : List Tree := ((y2.getD 0 (DT.dflt .item)).kids.getD 3 (DT.dflt .item)).kids
                          (Fc74 (Tree.node x202 f203 f204)).bind fun
                           | (.inl (e205, _)) =>
                            some (.inl (e205, ()))
                           | (.inr y206) =>
                            if (0 : Int) ≤ (4 : Int) ∧ (4 : Int) < ((y2.getD 0 (DT.dflt .item)).kids.length : Int) then
                             let x207 : Int := ((y2.getD 0 (DT.dflt .item)).kids.getD 4 (DT.dflt .item)).tag
                             let f208 : List Int := ((y2.getD 0 (DT.dflt .item)).kids.getD 4 (DT.dflt .item)).body
                             let f209 : List Tree := ((y2.getD 0 (DT.dflt .item)).kids.getD 4 (DT.dflt .item)).kids
                             (Fc75 ()).bind fun y210 =>
                              (Fc73 ((Tree.node x207 f208 f209), (Tree.node y210.tag y210.body y210.kids))).bind fun
                               | (.inl _) =>
                                if (0 : Int) ≤ (5 : Int) ∧ (5 : Int) < ((y2.getD 0 (DT.dflt .item)).kids.length : Int) then
                                 let x211 : Int := ((y2.getD 0 (DT.dflt .item)).kids.getD 5 (DT.dflt .item)).tag
                                 let f212 : List Int := ((y2.getD 0 (DT.dflt .item)).kids.getD 5 (DT.dflt .item)).body
                                 let f213 : List Tree := ((y2.getD 0 (DT.dflt .item)).kids.getD 5 (DT.dflt .item)).kids
                                 (Fc74 (Tree.node x211 f212 f213)).bind fun
                                  | (.inl (e214, _)) =>
                                   some (.inl (e214, ()))
                                  | (.inr y215) =>
                                   if (0 : Int) ≤ (6 : Int) ∧ (6 : Int) < ((y2.getD 0 (DT.dflt .item)).kids.length : Int) then
                                    let x216 : Int := ((y2.getD 0 (DT.dflt .item)).kids.getD 6 (DT.dflt .item)).tag
                                    let f217 : List Int := ((y2.getD 0 (DT.dflt .item)).kids.getD 6 (DT.dflt .item)).body
                                    let f218 : List Tree := ((y2.getD 0 (DT.dflt .item)).kids.getD 6 (DT.dflt .item)).kids
                                    (Fc70 ((Tree.node x216 f217 f218), 48, 2)).bind fun
                                     | (.inl (e219, _)) =>
                                      some (.inl (e219, ()))
                                     | (.inr y220) =>
                                      if (0 : Int) ≤ (0 : Int) ∧ (0 : Int) < (y220.length : Int) then
                                       (Fc48 ()).bind fun y221 =>
                                        (Fc73 ((Tree.node (y220.getD 0 (DT.dflt .item)).tag (y220.getD 0 (DT.dflt .item)).body (y220.getD 0 (DT.dflt .item)).kids), (Tree.node y221.tag y221.body y221.kids))).bind fun
                                         | (.inl _) =>
                                          if (0 : Int) ≤ (1 : Int) ∧ (1 : Int) < (y220.length : Int) then
                                           (Fc53 (Tree.node (y220.getD 1 (DT.dflt .item)).tag (y220.getD 1 (DT.dflt .item)).body (y220.getD 1 (DT.dflt .item)).kids)).bind fun (y222, y223) =>
                                            (Fc76 (y222, y223)).bind fun
                                             | (.inl (e224, _)) =>
                                              some (.inl (e224, ()))
                                             | (.inr y225) =>
                                              if (((y2.getD 0 (DT.dflt .item)).kids.length : Int) == 8) = true then
                                               if (0 : Int) ≤ (7 : Int) ∧ (7 : Int) < ((y2.getD 0 (DT.dflt .item)).kids.length : Int) then
                                                let x226 : Int := ((y2.getD 0 (DT.dflt .item)).kids.getD 7 (DT.dflt .item)).tag
                                                let f227 : List Int := ((y2.getD 0 (DT.dflt .item)).kids.getD 7 (DT.dflt .item)).body
                                                let f228 : List Tree := ((y2.getD 0 (DT.dflt .item)).kids.getD 7 (DT.dflt .item)).kids
                                                (Fc70 ((Tree.node x226 f227 f228), 163, 1)).bind fun
                                                 | (.inl (e229, _)) =>
                                                  some (.inl (e229, ()))
                                                 | (.inr y230) =>
                                                  if (0 : Int) ≤ (0 : Int) ∧ (0 : Int) < (y230.length : Int) then
                                                   if ((y230.getD 0 (DT.dflt .item)).tag == 48) = true then
                                                    let x231 : Bool := (decide (((y230.getD 0 (DT.dflt .item)).kids.length : Int) > 0))
                                                    (Fc71 x231).bind fun
                                                     | (.inl (e232, _)) =>
                                                      some (.inl (e232, ()))
                                                     | (.inr _) =>
                                                      (loopO stepc42_0 (y2, (y230.getD 0 (DT.dflt .item)).kids, ((y230.getD 0 (DT.dflt .item)).kids.length : Int), 0, (0, ByteArray.empty, ByteArray.empty, (), (), ()), (y197, y206, y215, (), (), ()), ([] : List (Int × (Bool × (List Int)))), y225)).bind fun
                                                       | (.inl (e233, _)) =>
                                                        some (.inl (e233, ()))
                                                       | (.inr (z234, z235, z236, z237, z238)) =>
                                                        if (0 : Int) ≤ (1 : Int) ∧ (1 : Int) < (z234.length : Int) then
                                                         (Fc48 ()).bind fun y239 =>
                                                          (Fc73 ((Tree.node (z234.getD 1 (DT.dflt .item)).tag (z234.getD 1 (DT.dflt .item)).body (z234.getD 1 (DT.dflt .item)).kids), (Tree.node y239.tag y239.body y239.kids))).bind fun
                                                           | (.inl _) =>
                                                            if (0 : Int) ≤ (2 : Int) ∧ (2 : Int) < (z234.length : Int) then
                                                             (Fc53 (Tree.node (z234.getD 2 (DT.dflt .item)).tag (z234.getD 2 (DT.dflt .item)).body (z234.getD 2 (DT.dflt .item)).kids)).bind fun (y240, y241) =>
                                                              (Fc76 (y240, y241)).bind fun
                                                               | (.inl (e242, _)) =>
                                                                some (.inl (e242, ()))
                                                               | (.inr y243) =>
                                                                some (.inr ((z236.1, z236.2.1, z236.2.2.1, (), (), ()), z237, z238, y243))
                                                            else none
                                                           | (.inr (e244, _)) =>
                                                            some (.inl (e244, ()))
                                                        else none
                                                   else
                                                    (Fc71 false).bind fun
                                                     | (.inl (e245, _)) =>
                                                      some (.inl (e245, ()))
                                                     | (.inr _) =>
                                                      (loopO stepc42_0 (y2, (y230.getD 0 (DT.dflt .item)).kids, ((y230.getD 0 (DT.dflt .item)).kids.length : Int), 0, (0, ByteArray.empty, ByteArray.empty, (), (), ()), (y197, y206, y215, (), (), ()), ([] : List (Int × (Bool × (List Int)))), y225)).bind fun
                                                       | (.inl (e246, _)) =>
                                                        some (.inl (e246, ()))
                                                       | (.inr (z247, z248, z249, z250, z251)) =>
                                                        if (0 : Int) ≤ (1 : Int) ∧ (1 : Int) < (z247.length : Int) then
                                                         (Fc48 ()).bind fun y252 =>
                                                          (Fc73 ((Tree.node (z247.getD 1 (DT.dflt .item)).tag (z247.getD 1 (DT.dflt .item)).body (z247.getD 1 (DT.dflt .item)).kids), (Tree.node y252.tag y252.body y252.kids))).bind fun
                                                           | (.inl _) =>
                                                            if (0 : Int) ≤ (2 : Int) ∧ (2 : Int) < (z247.length : Int) then
                                                             (Fc53 (Tree.node (z247.getD 2 (DT.dflt .item)).tag (z247.getD 2 (DT.dflt .item)).body (z247.getD 2 (DT.dflt .item)).kids)).bind fun (y253, y254) =>
                                                              (Fc76 (y253, y254)).bind fun
                                                               | (.inl (e255, _)) =>
                                                                some (.inl (e255, ()))
                                                               | (.inr y256) =>
                                                                some (.inr ((z249.1, z249.2.1, z249.2.2.1, (), (), ()), z250, z251, y256))
                                                            else none
                                                           | (.inr (e257, _)) =>
                                                            some (.inl (e257, ()))
                                                        else none
                                                  else none
                                               else none
                                              else
                                               if (0 : Int) ≤ (1 : Int) ∧ (1 : Int) < (y2.length : Int) then
                                                (Fc48 ()).bind fun y258 =>
                                                 (Fc73 ((Tree.node (y2.getD 1 (DT.dflt .item)).tag (y2.getD 1 (DT.dflt .item)).body (y2.getD 1 (DT.dflt .item)).kids), (Tree.node y258.tag y258.body y258.kids))).bind fun
                                                  | (.inl _) =>
                                                   if (0 : Int) ≤ (2 : Int) ∧ (2 : Int) < (y2.length : Int) then
                                                    (Fc53 (Tree.node (y2.getD 2 (DT.dflt .item)).tag (y2.getD 2 (DT.dflt .item)).body (y2.getD 2 (DT.dflt .item)).kids)).bind fun (y259, y260) =>
                                                     (Fc76 (y259, y260)).bind fun
                                                      | (.inl (e261, _)) =>
                                                       some (.inl (e261, ()))
                                                      | (.inr y262) =>
                                                       some (.inr ((y197, y206, y215, (), (), ()), y225, ([] : List (Int × (Bool × (List Int)))), y262))
                                                   else none
                                                  | (.inr (e263, _)) =>
                                                   some (.inl (e263, ()))
                                               else none
                                          else none
                                         | (.inr (e264, _)) =>
                                          some (.inl (e264, ()))
                                      else none
                                   else none
                                else none
                               | (.inr (e265, _)) =>
                                some (.inl (e265, ()))
                            else none
                         else none
                        | (.inr (e266, _)) =>
                         some (.inl (e266, ()))
                     else none
                 else none
           else none
        else none
    else none

noncomputable def annc42 : Ann := (.seq .none (.seq .none (.seq .none (.seq .none (.seq .none (.seq .none (.seq .none (.seq .none (.seq .none (.seq .none (.seq .none (.seq .none (.seq .none (.seq .none (.seq (.seq .none (.seq (.seq .none (.seq .none (.seq .none (.seq (.cut (cutEnt lc42_0 oc42_0 (loopO (stepc42_0)))) .none)))) .none)) .none)))))))))))))))
theorem eqc42_0 : ∀ s : lc42_0.T, exec ctab (ofL Ec77) 139 (Code.at' [1, 1, 1, 1, 1, 1, 1, 1, 1, 1, 1, 1, 1, 1, 0, 1, 0, 1, 1, 1, 0, 0] bodyc42) annc42_0 (fun e st => loopEnd (l := lc42_0) (outs := oc42_0) e st) (lc42_0.enc s) = stepc42_0 s := by
  rintro ⟨t3, t111, t112, t113, r2, r6, r600388, r3086⟩
  kernel_rfl
theorem okc42_0 : LOk Try.prog 139 (cutEnt lc42_0 oc42_0 (loopO stepc42_0)) (Code.at' [1, 1, 1, 1, 1, 1, 1, 1, 1, 1, 1, 1, 1, 1, 0, 1, 0, 1, 1, 1, 0] bodyc42) := by
  have e : Code.at' [1, 1, 1, 1, 1, 1, 1, 1, 1, 1, 1, 1, 1, 1, 0, 1, 0, 1, 1, 1, 0] bodyc42 = .loop (Code.at' [1, 1, 1, 1, 1, 1, 1, 1, 1, 1, 1, 1, 1, 1, 0, 1, 0, 1, 1, 1, 0, 0] bodyc42) := by kernel_rfl
  rw [e]
  refine loop_ok cc42 139 rfl rfl (annOk_of_cuts ?_) eqc42_0
  intro x hx
  exact absurd hx (by show x ∉ ([] : List (List Nat × LEnt)); simp)

theorem eqc42 : ∀ x : Sc42.inT, exec ctab (ofL Ec77) 139 bodyc42 annc42 (finL ctab Sc42) (Sc42.inp.enc x) = Fc42 x := by
  intro x
  kernel_rfl
theorem callsc42 : CallsL Try.prog 42 Sc42 Fc42 := by
  refine fun_callsL (fn := Try.f42) (c := bodyc42) (ann := annc42) cc42 (by kernel_rfl) (by kernel_rfl) (by kernel_rfl) (by kernel_rfl) (by kernel_rfl) (annOk_of_cuts ?_) eqc42
  have hc : Ann.cuts annc42 = [([1, 1, 1, 1, 1, 1, 1, 1, 1, 1, 1, 1, 1, 1, 0, 1, 0, 1, 1, 1, 0], (cutEnt lc42_0 oc42_0 (loopO (stepc42_0))))] := by kernel_rfl
  rw [hc]
  intro x hx
  simp only [List.mem_cons, List.not_mem_nil, or_false] at hx
  rcases hx with rfl
  · have e : Code.at' [1, 1, 1, 1, 1, 1, 1, 1, 1, 1, 1, 1, 1, 1, 0, 1, 0, 1, 1, 1, 0] bodyc42 = Code.at' [1, 1, 1, 1, 1, 1, 1, 1, 1, 1, 1, 1, 1, 1, 0, 1, 0, 1, 1, 1, 0] bodyc42 := by kernel_rfl
    rw [e]; exact okc42_0

theorem entc42 : EntOk Try.prog 42 (funEntL Sc42 true Fc42) := fun_okL (fn := Try.f42) (c := bodyc42) (by kernel_rfl) (by kernel_rfl) (by kernel_rfl) (by kernel_rfl) callsc42
noncomputable def Ec42 : List (Nat × Ent) := (42, (funEntL Sc42 true Fc42)) :: Ec77
theorem Ec42_ok : EntsOk Try.prog (ofL Ec42) := .cons entc42 Ec77_ok

/-! ### barbican/cert.Parse -/
/-! ### the closure 40, by hand -/
noncomputable def bodyc40 : Code := (Try.f40.body).getD .skip
noncomputable def oac40 : Array Oper := opsOf (Code.at' [0] bodyc40)
noncomputable def obc40 : Array Oper := opsOf (Code.at' [1, 0] bodyc40)
noncomputable def occ40 : Array Oper := opsOf (Code.at' [1, 1, 0, 0] bodyc40)
theorem atc40 : bodyc40 = .seq (.region 0 oac40 false) (.seq (.region 1 obc40 false) (.cond (.tmp 8) (.seq (.region 2 occ40 false) (Code.at' [1, 1, 0, 1] bodyc40)) .skip)) := by kernel_rfl
abbrev Sc40 : FL := ⟨⟨[(0, .ptr 1000000 0 6), (1, .ptr 1000001 0 1), (2, .ptr 1000002 0 1)], [.reg 1000000 (.cells [.int .u64, .str, .str, .fz (.int .u8), .fz (.pair (.int .i64) (.pair .bool (.sl (.int .u8)))), .fz (.int .u8)]), .reg 1000001 (.cells [.fz (.int .u8)]), .reg 1000002 (.cells [.int .i64])], [(1000000, .env 0 0), (1000001, .env 1 0), (1000002, .env 2 0)]⟩, 3, [(.ret, ⟨[], [.reg 1000000 (.cells [.int .u64, .str, .str, .fz (.int .u8), .fz (.pair (.int .i64) (.pair .bool (.sl (.int .u8)))), .fz (.int .u8)]), .reg 1000001 (.cells [.fz (.int .u8)]), .reg 1000002 (.cells [.int .i64])], []⟩)], [], true⟩
noncomputable def cc40 : Ctx Try.prog := ⟨ctab, ofL cE0, ctabOk, cE0_ok, cdep, cord⟩
noncomputable def FRc40 : (Int × ByteArray × ByteArray × List Int × List (Int × Bool × List Int) × List Int) × List Int × Int → Option ((Int × ByteArray × ByteArray × List Int × List (Int × Bool × List Int) × List Int) × List Int × Int) := fun x => some x
noncomputable def FPc40 (n : Int) : (Int × ByteArray × ByteArray × List Int × List (Int × Bool × List Int) × List Int) × List Int × Int → Option ((Int × ByteArray × ByteArray × List Int × List (Int × Bool × List Int) × List Int) × List Int × Int) := fun _ => some ((0, ByteArray.empty, ByteArray.empty, [], [], []), [], n)
noncomputable def stc40 (n : Int) (x : Sc40.inT) : St := { env := upd (upd (Sc40.inp.enc x).env 12 (some (.agg [.int .i64 n]))) 13 (some (.c (.bool true))), heap := (Sc40.inp.enc x).heap }
theorem exRc40 : ∀ x, exec ctab (ofL cE0) 20 .skip .none (finL ctab Sc40) (Sc40.inp.enc x) = FRc40 x := by
  intro x
  kernel_rfl
theorem exPc40 (n : Int) : ∀ x, execOps ctab (ofL cE0) 20 occ40 ((List.range' 5 3).map (opAt occ40)) (stc40 n x) [] (fun st' _ => exec ctab (ofL cE0) 20 (Code.at' [1, 1, 0, 1] bodyc40) .none (finL ctab Sc40) st') (fun _ _ _ _ _ => none) = FPc40 n x := by
  intro x
  kernel_rfl
theorem restRc40 (us : List Value) (x : Sc40.inT) (y : Sc40.outT) (w : World) (fp : FP) (β : Nat → Value) (hlen : us.length = Sc40.n) (hdfs : fp.dfs = []) (hF : FRc40 x = some y) (R : Rel Try.prog w fp us.length β (Sc40.inp.enc x) { tmps := us.toArray, defers := [] } w) :
    (Code.seq (.region 1 obc40 false) (.cond (.tmp 8) (.seq (.region 2 occ40 false) (Code.at' [1, 1, 0, 1] bodyc40)) .skip)).wp Try.prog (bodyPost Try.prog Try.f40 (EndL Try.prog Sc40 fp w y)) (act2 Try.f40.ntmps 6 3 us .nilIface) w := by
  have nn : Try.f40.ntmps = 20 := by kernel_rfl
  obtain ⟨anc, hb, dfs⟩ := fp
  have hdfs : dfs = [] := hdfs
  subst hdfs
  match us, hlen with
  | [p0, p1, p2], _ =>
  rw [nn]
  have e0 : (opAt obc40 0).dst = some 7 := by kernel_rfl
  have e1 : (opAt obc40 1).dst = some 8 := by kernel_rfl
  have r1 : List.range obc40.size = [0, 1] := by kernel_rfl
  refine wp_seq (wp_region ?_)
  rw [r1]
  refine wpOps_val (o := opAt obc40 0) (v := .nilIface) (w' := w) (by kernel_rfl) (by kernel_rfl) (by kernel_rfl) ?_
  refine wpOps_val (o := opAt obc40 1) (v := .bool false) (w' := w) (by kernel_rfl) (by kernel_rfl) (by kernel_rfl) ?_
  rw [e0, e1]
  refine wp_cond_false (by kernel_rfl) ?_
  refine rest_callsL cc40 (fn := Try.f40) (S := Sc40) (c := .skip) (ann := .none) (y := y) (w := w) (w1 := w) (st := Sc40.inp.enc x) (β := β) (fp := ⟨anc, hb, []⟩) (by kernel_rfl) (by kernel_rfl) (by kernel_rfl) noCuts rfl ((exRc40 x).trans hF) ?_
  refine R.act rfl (by kernel_rfl) (by decide) (fun t av ht => ?_)
  have h1 := R.env t av ht
  match t with
  | 0 => exact avEq h1 (by kernel_rfl)
  | 1 => exact avEq h1 (by kernel_rfl)
  | 2 => exact avEq h1 (by kernel_rfl)
  | t + 3 => cases ht
theorem restPc40 (n : Int) (us : List Value) (x : Sc40.inT) (y : Sc40.outT) (w : World) (fp : FP) (β : Nat → Value) (hlen : us.length = Sc40.n) (hdfs : fp.dfs = []) (hF : FPc40 n x = some y) (R : Rel Try.prog w fp us.length β (Sc40.inp.enc x) { tmps := us.toArray, defers := [] } w) :
    (Code.seq (.region 1 obc40 false) (.cond (.tmp 8) (.seq (.region 2 occ40 false) (Code.at' [1, 1, 0, 1] bodyc40)) .skip)).wp Try.prog (bodyPost Try.prog Try.f40 (EndL Try.prog Sc40 fp w y)) (act2 Try.f40.ntmps 6 3 us (.iface 75 (.agg #[.int .i64 n]))) w := by
  have nn : Try.f40.ntmps = 20 := by kernel_rfl
  obtain ⟨anc, hb, dfs⟩ := fp
  have hdfs : dfs = [] := hdfs
  subst hdfs
  match us, hlen with
  | [p0, p1, p2], _ =>
  rw [nn]
  have e0 : (opAt obc40 0).dst = some 7 := by kernel_rfl
  have e1 : (opAt obc40 1).dst = some 8 := by kernel_rfl
  have d0 : (opAt occ40 0).dst = some 10 := by kernel_rfl
  have d1 : (opAt occ40 1).dst = some 11 := by kernel_rfl
  have d2 : (opAt occ40 2).dst = some 9 := by kernel_rfl
  have d3 : (opAt occ40 3).dst = some 12 := by kernel_rfl
  have d4 : (opAt occ40 4).dst = some 13 := by kernel_rfl
  have r1 : List.range obc40.size = [0, 1] := by kernel_rfl
  have r2 : List.range occ40.size = 0 :: 1 :: 2 :: 3 :: 4 :: (List.range' 5 3 ++ []) := by kernel_rfl
  refine wp_seq (wp_region ?_)
  rw [r1]
  refine wpOps_val (o := opAt obc40 0) (v := .iface 75 (.agg #[.int .i64 n])) (w' := w) (by kernel_rfl) (by kernel_rfl) (by kernel_rfl) ?_
  refine wpOps_val (o := opAt obc40 1) (v := .bool true) (w' := w) (by kernel_rfl) (by kernel_rfl) (by kernel_rfl) ?_
  rw [e0, e1]
  refine wp_cond_true (by kernel_rfl) (wp_seq (wp_region ?_))
  rw [r2]
  refine wpOps_val (o := opAt occ40 0) (v := .iface 75 (.agg #[.int .i64 n])) (w' := w) (by kernel_rfl) (by kernel_rfl) (by kernel_rfl) ?_
  refine wpOps_val (o := opAt occ40 1) (v := .tuple #[.agg #[.int .i64 n], .bool true]) (w' := w) (by kernel_rfl) (by kernel_rfl) (by kernel_rfl) ?_
  refine wpOps_val (o := opAt occ40 2) (v := .tuple #[.agg #[.int .i64 n], .bool true]) (w' := w) (by kernel_rfl) (by kernel_rfl) (by kernel_rfl) ?_
  refine wpOps_val (o := opAt occ40 3) (v := .agg #[.int .i64 n]) (w' := w) (by kernel_rfl) (by kernel_rfl) (by kernel_rfl) ?_
  refine wpOps_val (o := opAt occ40 4) (v := .bool true) (w' := w) (by kernel_rfl) (by kernel_rfl) (by kernel_rfl) ?_
  rw [d0, d1, d2, d3, d4]
  have e := exPc40 n x
  rw [hF] at e
  have hall := opAt_all (ops := occ40) (i := 5) (k := 3) (by kernel_rfl)
  refine ops_sound cc40 (i := 5) (ops := (List.range' 5 3).map (opAt occ40)) (w0 := w) (fp := ⟨anc, hb, []⟩) e hall ⟨β, ?_⟩ ?_ ?_
  · refine R.act rfl (by kernel_rfl) (by decide) (fun t av ht => ?_)
    by_cases h13 : t = 13
    · subst h13
      have ht : some (AV.c (.bool true)) = some av := ht
      cases ht
      exact avBool (by kernel_rfl)
    · by_cases h12 : t = 12
      · subst h12
        have ht : some (AV.agg [.int .i64 n]) = some av := ht
        cases ht
        exact avNum (by kernel_rfl)
      · have ht : upd (upd (Sc40.inp.enc x).env 12 (some (.agg [.int .i64 n]))) 13 (some (.c (.bool true))) t = some av := ht
        rw [upd_ne _ _ h13, upd_ne _ _ h12] at ht
        have h1 := R.env t av ht
        match t with
        | 0 => exact avEq h1 (by kernel_rfl)
        | 1 => exact avEq h1 (by kernel_rfl)
        | 2 => exact avEq h1 (by kernel_rfl)
        | t + 3 => cases ht
  · rintro st' _ a w' h1 ⟨β', R'⟩
    exact wpOps_end (rest_callsL cc40 (fn := Try.f40) (S := Sc40) (c := Code.at' [1, 1, 0, 1] bodyc40) (ann := .none) (y := y) (w := w) (w1 := w') (st := st') (a := a) (β := β') (fp := ⟨anc, hb, []⟩) (by kernel_rfl) (by kernel_rfl) (by kernel_rfl) noCuts rfl h1 R')
  · intro t m st' rest _ a w' h1
    cases h1
theorem cloc40 {u u' : FrameMode} {v : Value} (hu : Recovers u u' v) {F : Sc40.inT → Option Sc40.outT} (hrest : ∀ (us : List Value) (x : Sc40.inT) (y : Sc40.outT) (w : World) (fp : FP) (β : Nat → Value), us.length = Sc40.n → fp.dfs = [] → F x = some y → Rel Try.prog w fp us.length β (Sc40.inp.enc x) { tmps := us.toArray, defers := [] } w →
      (Code.seq (.region 1 obc40 false) (.cond (.tmp 8) (.seq (.region 2 occ40 false) (Code.at' [1, 1, 0, 1] bodyc40)) .skip)).wp Try.prog (bodyPost Try.prog Try.f40 (EndL Try.prog Sc40 fp w y)) (act2 Try.f40.ntmps 6 3 us v) w) : CallsDL Try.prog 40 Sc40 u u' F :=
  clo_callsDL2 (fn := Try.f40) (id := 0) (ops := oac40) (t0 := 6) (t1 := 3) (v := v) (o0 := opAt oac40 0) (o1 := opAt oac40 1) (by kernel_rfl) (by kernel_rfl) (by kernel_rfl) (by kernel_rfl) (by kernel_rfl) (by kernel_rfl) (by kernel_rfl) (by kernel_rfl) (by kernel_rfl) (by kernel_rfl) (fun a w => by kernel_rfl) (fun a w => by kernel_rfl) hu hrest
theorem okc40 : CloOk Try.prog 40 Sc40 75 FRc40 FPc40 := ⟨cloc40 (.inl ⟨rfl, rfl, rfl⟩) restRc40, fun n => cloc40 (.inr ⟨rfl, rfl⟩) (restPc40 n)⟩

abbrev Sc8 : FL := ⟨⟨[], [.env 0 (.c (.fz (.int .u8)))], []⟩, 1, [(.ret, ⟨[], [.env 0 (.dat (.pair (.int .u64) (.pair .str (.pair .str (.pair (.sl (.int .u8)) (.pair (.sl (.pair (.int .i64) (.pair .bool (.sl (.int .u8))))) (.sl (.int .u8)))))))), .env 1 (.c (.fz (.int .u8))), .env 2 (.c (.int .i64))], []⟩)], [.cell 2 26, .cell 3 22, .cell 4 27], true⟩
noncomputable def bodyc8 : Code := (Try.f8.body).getD .skip
noncomputable def oac8 : Array Oper := opsOf (Code.at' [1, 0] bodyc8)
theorem atc8 : bodyc8 = .seq (Code.at' [0] bodyc8) (.seq (.region 1 oac8 false) (Code.at' [1, 1] bodyc8)) := by kernel_rfl
abbrev SMc8 : FL := ⟨⟨[(2, .ptr 1000000 0 6), (3, .ptr 1000001 0 1), (4, .ptr 1000002 0 1)], [.env 0 (.c (.fz (.int .u8))), .reg 1000000 (.cells [.int .u64, .str, .str, .fz (.int .u8), .fz (.pair (.int .i64) (.pair .bool (.sl (.int .u8)))), .fz (.int .u8)]), .reg 1000001 (.cells [.fz (.int .u8)]), .reg 1000002 (.cells [.int .i64])], [(1000000, .env 2 0), (1000001, .env 3 0), (1000002, .env 4 0)]⟩, 5, [(.ret, ⟨[], [.env 0 (.dat (.pair (.int .u64) (.pair .str (.pair .str (.pair (.sl (.int .u8)) (.pair (.sl (.pair (.int .i64) (.pair .bool (.sl (.int .u8))))) (.sl (.int .u8)))))))), .env 1 (.c (.fz (.int .u8))), .env 2 (.c (.int .i64))], []⟩)], [.cell 2 26, .cell 3 22, .cell 4 27], true⟩
noncomputable def cc8 : Ctx Try.prog := ⟨ctab, ofL Ec42, ctabOk, Ec42_ok, cdep, cord⟩
noncomputable def FMc8 : List Int × (Int × ByteArray × ByteArray × List Int × List (Int × Bool × List Int) × List Int) × List Int × Int → Option ((Int × ByteArray × ByteArray × List Int × List (Int × Bool × List Int) × List Int) × List Int × Int) := fun (b, c, s, e) =>
    (Fc41 b).bind fun (y1, y2) =>
      if (y2 != 0) = true then (FRc40 ((0, ByteArray.empty, ByteArray.empty, [], [], []), [], y2)).bind fun (c', s', e') => some (c', s', e')
      else (Fc42 (Tree.node y1.tag y1.body y1.kids)).bind fun
        | .inl (e3, _) => (FPc40 e3 (c, s, y2)).bind fun (c', s', e') => some (c', s', e')
        | .inr (y4, y5, y6, y7) =>
          (Fc43 (y4.1, (y4.2.1, (y4.2.2.1, (y5, (y6, y7)))))).bind fun y8 =>
            if (y8 == 134) = false then
              if ((y7.length : Int) != 3373) = true then (Fc44 134).bind fun (e9, _) => (FPc40 e9 ((y4.1, y4.2.1, y4.2.2.1, y5, y6, y7), s, y2)).bind fun (c', s', e') => some (c', s', e')
              else
                if (y8 != 0) = true then (Fc44 y8).bind fun (e10, _) => (FPc40 e10 ((y4.1, y4.2.1, y4.2.2.1, y5, y6, y7), s, y2)).bind fun (c', s', e') => some (c', s', e')
                else
                  if (0 : Int) ≤ (0 : Int) ∧ (0 : Int) < (y1.kids.length : Int) then
                    (Fc45 (Tree.node (y1.kids.getD 0 (DT.dflt .item)).tag (y1.kids.getD 0 (DT.dflt .item)).body (y1.kids.getD 0 (DT.dflt .item)).kids)).bind fun (y11, y12) => (FRc40 ((y4.1, y4.2.1, y4.2.2.1, y5, y6, y7), y11, 0)).bind fun (c', s', e') => some (c', s', e')
                  else none
            else (Fc44 134).bind fun (e13, _) => (FPc40 e13 ((y4.1, y4.2.1, y4.2.2.1, y5, y6, y7), s, y2)).bind fun (c', s', e') => some (c', s', e')
noncomputable def Fc8 : List Int → Option ((Int × ByteArray × ByteArray × List Int × List (Int × Bool × List Int) × List Int) × List Int × Int) := fun (b : List Int) => (FMc8 (b, (0, ByteArray.empty, ByteArray.empty, [], [], []), [], 0)).bind fun (c, s, e) => some (c, s, e)
theorem eqMc8 : ∀ x, exec ctab (ofL Ec42) 43 (Code.at' [1, 1] bodyc8) .none (finD ctab SMc8 [2, 3, 4] (SMc8.inp.enc x) (funEntL Sc40 false FRc40) 75 (fun n => funEntL Sc40 false (FPc40 n))) (SMc8.inp.enc x) = FMc8 x := by
  rintro ⟨b, c, s, e⟩
  kernel_rfl
theorem eqc8 : ∀ x, deferF ctab (ofL Ec42) 43 (Code.at' [0] bodyc8) .none Sc8 SMc8 [0, 2, 3, 4] 7 FMc8 x = Fc8 x := by
  intro b
  kernel_rfl
theorem callsc8 : CallsL Try.prog 8 Sc8 Fc8 :=
  defer_callsL cc8 (fn := Try.f8) (fnc := Try.f40) (A := Code.at' [0] bodyc8) (rest := Code.at' [1, 1] bodyc8) (id := 1) (ops := oac8) (cc := bodyc40) (o0 := opAt oac8 0) (o1 := opAt oac8 1) (tc := 7) (pt := 75) (cs := [2, 3, 4]) (kn := [0, 2, 3, 4]) (SM := SMc8) (SC := Sc40) (annA := .none) (ann := .none) (FR := FRc40) (FPn := FPc40) (FM := FMc8)
    (by kernel_rfl) (by kernel_rfl) (by kernel_rfl) (by kernel_rfl) (by kernel_rfl) (by kernel_rfl) (by kernel_rfl) (by kernel_rfl) (by kernel_rfl) (by kernel_rfl)
    (fun a w => by kernel_rfl) (fun a w vs h => defer_run (o := opAt oac8 1) (ats := #[]) (by kernel_rfl) h)
    (by kernel_rfl) (by kernel_rfl) (by kernel_rfl) (by kernel_rfl) okc40 (by kernel_rfl) (by kernel_rfl) (by kernel_rfl) (by kernel_rfl) (by kernel_rfl) (by kernel_rfl) (by kernel_rfl)
    noCuts noCuts eqMc8 eqc8
theorem entc8 : EntOk Try.prog 8 (funEntL Sc8 true Fc8) := fun_okL (fn := Try.f8) (c := bodyc8) (by kernel_rfl) (by kernel_rfl) (by kernel_rfl) (by kernel_rfl) callsc8

noncomputable def Ec8 : List (Nat × Ent) := (8, funEntL Sc8 true Fc8) :: Ec42
theorem Ec8_ok : EntsOk Try.prog (ofL Ec8) := .cons entc8 Ec42_ok

/-! ### barbican/barbicanlaw13.alive -/
noncomputable def bodyc12 : Code := (Try.f12.body).getD .skip
abbrev Sc12 : FL := ⟨⟨[], [], []⟩, 0, [(.ret, ⟨[], [.env 0 (.c (.bool))], []⟩)], [.tmp 0], false⟩
noncomputable def cc12 : Ctx Try.prog := ⟨ctab, ofL Ec8, ctabOk, Ec8_ok, cdep, cord⟩
noncomputable def Fc12 : Unit → Option ((Bool))
  | _ =>
  if 0 ≤ (2017 : Int) ∧ (2017 : Int) ≤ 2017 ∧ okBytes 2017 1 then
   if 0 ≤ (3373 : Int) ∧ (3373 : Int) ≤ 3373 ∧ okBytes 3373 1 then
    (Fc16 (1, cstr3, cstr4, (List.replicate 2017 (0 : Int)), ([] : List (Int × (Bool × (List Int)))), (List.replicate 3373 (0 : Int)))).bind fun (y1, y2) =>
     (Fc8 y1).bind fun (y3, y4, y5) =>
      (Fc8 (((List.replicate 2 (0 : Int)).set 0 48).set 1 0)).bind fun (y6, y7, y8) =>
       if (y2 == 0) = true then
        if (y5 == 0) = true then
         if (y3.2.2.1.toList == cstr4.toList) = true then
          some (y8 == 131)
         else
          some false
        else
         some false
       else
        some false
   else none
  else none

noncomputable def annc12 : Ann := .none
theorem eqc12 : ∀ x : Sc12.inT, exec ctab (ofL Ec8) 45 bodyc12 annc12 (finL ctab Sc12) (Sc12.inp.enc x) = Fc12 x := by
  intro x
  kernel_rfl
theorem callsc12 : CallsL Try.prog 12 Sc12 Fc12 := by
  refine fun_callsL (fn := Try.f12) (c := bodyc12) (ann := annc12) cc12 (by kernel_rfl) (by kernel_rfl) (by kernel_rfl) (by kernel_rfl) (by kernel_rfl) (annOk_of_cuts ?_) eqc12
  intro x hx
  exact absurd hx (by show x ∉ ([] : List (List Nat × LEnt)); simp)

theorem entc12 : EntOk Try.prog 12 (funEntL Sc12 true Fc12) := fun_okL (fn := Try.f12) (c := bodyc12) (by kernel_rfl) (by kernel_rfl) (by kernel_rfl) (by kernel_rfl) callsc12
noncomputable def Ec12 : List (Nat × Ent) := (12, (funEntL Sc12 true Fc12)) :: Ec8
theorem Ec12_ok : EntsOk Try.prog (ofL Ec12) := .cons entc12 Ec8_ok

/-! ### barbican/barbicanlaw13.CertWrites -/
noncomputable def bodyc4 : Code := (Try.f4.body).getD .skip
abbrev Sc4 : FL := ⟨⟨[], [.env 0 (.agg [.int .u64, .str, .str, .fz (.int .u8), .fz (.pair (.int .i64) (.pair .bool (.sl (.int .u8)))), .fz (.int .u8), .bool, .fz (.int .u8), .fz (.int .u8)])], []⟩, 1, [(.ret, ⟨[], [.env 0 (.c (.bool))], []⟩)], [.tmp 2], false⟩
noncomputable def cc4 : Ctx Try.prog := ⟨ctab, ofL Ec12, ctabOk, Ec12_ok, cdep, cord⟩
noncomputable def Fc4 : Int × ByteArray × ByteArray × (List Int) × (List (Int × (Bool × (List Int)))) × (List Int) × Bool × (List Int) × (List Int) → Option ((Bool))
  | a0 =>
  (Fc13 (a0.1, a0.2.1, a0.2.2.1, a0.2.2.2.1, a0.2.2.2.2.1, a0.2.2.2.2.2.1, a0.2.2.2.2.2.2.1, a0.2.2.2.2.2.2.2.1, a0.2.2.2.2.2.2.2.2)).bind fun y1 =>
   (Fc14 (y1.1, y1.2.1, y1.2.2.1, y1.2.2.2.1, y1.2.2.2.2.1, y1.2.2.2.2.2)).bind fun y2 =>
    (Fc15 (y2.1, y2.2.1, y2.2.2.1, y2.2.2.2.1, y2.2.2.2.2.1, y2.2.2.2.2.2)).bind fun (y3, y4) =>
     (Fc16 (y2.1, y2.2.1, y2.2.2.1, y2.2.2.2.1, y2.2.2.2.2.1, y2.2.2.2.2.2)).bind fun (y5, y6) =>
      (Fc17 (y1.1, y1.2.1, y1.2.2.1, y1.2.2.2.1, y1.2.2.2.2.1, y1.2.2.2.2.2)).bind fun (y7, y8) =>
       (Fc18 (y1.1, y1.2.1, y1.2.2.1, y1.2.2.2.1, y1.2.2.2.2.1, y1.2.2.2.2.2)).bind fun (y9, y10) =>
        (Fc10 (y3, y7)).bind fun y11 =>
         (Fc10 (y5, y9)).bind fun y12 =>
          (Fc9 ((y2.1, y2.2.1, y2.2.2.1, y2.2.2.2.1, y2.2.2.2.2.1, y2.2.2.2.2.2), (y1.1, y1.2.1, y1.2.2.1, y1.2.2.2.1, y1.2.2.2.2.1, y1.2.2.2.2.2))).bind fun y13 =>
           (Fc12 ()).bind fun y14 =>
            if y14 = true then
             if (y4 == y8) = true then
              if (y6 == y10) = true then
               if y11 = true then
                if y12 = true then
                 some y13
                else
                 some false
               else
                some false
              else
               some false
             else
              some false
            else
             some false

noncomputable def annc4 : Ann := .none
theorem eqc4 : ∀ x : Sc4.inT, exec ctab (ofL Ec12) 69 bodyc4 annc4 (finL ctab Sc4) (Sc4.inp.enc x) = Fc4 x := by
  intro x
  kernel_rfl
theorem callsc4 : CallsL Try.prog 4 Sc4 Fc4 := by
  refine fun_callsL (fn := Try.f4) (c := bodyc4) (ann := annc4) cc4 (by kernel_rfl) (by kernel_rfl) (by kernel_rfl) (by kernel_rfl) (by kernel_rfl) (annOk_of_cuts ?_) eqc4
  intro x hx
  exact absurd hx (by show x ∉ ([] : List (List Nat × LEnt)); simp)

theorem entc4 : EntOk Try.prog 4 (funEntL Sc4 true Fc4) := fun_okL (fn := Try.f4) (c := bodyc4) (by kernel_rfl) (by kernel_rfl) (by kernel_rfl) (by kernel_rfl) callsc4
noncomputable def Ec4 : List (Nat × Ent) := (4, (funEntL Sc4 true Fc4)) :: Ec12
theorem Ec4_ok : EntsOk Try.prog (ofL Ec4) := .cons entc4 Ec12_ok

/-! ### barbican/cert.Parse -/
/-! ### the closure 40, by hand -/
noncomputable def bodyc40b : Code := (Try.f40.body).getD .skip
noncomputable def oac40b : Array Oper := opsOf (Code.at' [0] bodyc40b)
noncomputable def obc40b : Array Oper := opsOf (Code.at' [1, 0] bodyc40b)
noncomputable def occ40b : Array Oper := opsOf (Code.at' [1, 1, 0, 0] bodyc40b)
theorem atc40b : bodyc40b = .seq (.region 0 oac40b false) (.seq (.region 1 obc40b false) (.cond (.tmp 8) (.seq (.region 2 occ40b false) (Code.at' [1, 1, 0, 1] bodyc40b)) .skip)) := by kernel_rfl
abbrev Sc40b : FL := ⟨⟨[(0, .ptr 1000000 0 6), (1, .ptr 1000001 0 1), (2, .ptr 1000002 0 1)], [.reg 1000000 (.cells [.int .u64, .str, .str, .fz (.int .u8), .fz (.pair (.int .i64) (.pair .bool (.sl (.int .u8)))), .full 1000003]), .reg 1000001 (.cells [.fz (.int .u8)]), .reg 1000002 (.cells [.int .i64]), .reg 1000003 (.row 5 .u8)], [(1000000, .env 0 0), (1000001, .env 1 0), (1000002, .env 2 0), (1000003, .reg 1000000 5)]⟩, 3, [(.ret, ⟨[], [.reg 1000000 (.cells [.int .u64, .str, .str, .fz (.int .u8), .fz (.pair (.int .i64) (.pair .bool (.sl (.int .u8)))), .full 1]), .reg 1000001 (.cells [.fz (.int .u8)]), .reg 1000002 (.cells [.int .i64]), .reg 1 (.row 5 .u8)], [(1, .reg 1000000 5)]⟩)], [], true⟩
noncomputable def cc40b : Ctx Try.prog := ⟨ctab, ofL cE0, ctabOk, cE0_ok, cdep, cord⟩
noncomputable def FRc40b : (Int × ByteArray × ByteArray × List Int × List (Int × Bool × List Int) × Unit) × List Int × Int × List Int → Option ((Int × ByteArray × ByteArray × List Int × List (Int × Bool × List Int) × Unit) × List Int × Int × List Int) := fun x => some x
noncomputable def FPc40b (n : Int) : (Int × ByteArray × ByteArray × List Int × List (Int × Bool × List Int) × Unit) × List Int × Int × List Int → Option ((Int × ByteArray × ByteArray × List Int × List (Int × Bool × List Int) × Unit) × List Int × Int × List Int) := fun _ => some ((0, ByteArray.empty, ByteArray.empty, [], [], ()), [], n, [])
noncomputable def stc40b (n : Int) (x : Sc40b.inT) : St := { env := upd (upd (Sc40b.inp.enc x).env 12 (some (.agg [.int .i64 n]))) 13 (some (.c (.bool true))), heap := (Sc40b.inp.enc x).heap }
theorem exRc40b : ∀ x, exec ctab (ofL cE0) 20 .skip .none (finL ctab Sc40b) (Sc40b.inp.enc x) = FRc40b x := by
  intro x
  kernel_rfl
theorem exPc40b (n : Int) : ∀ x, execOps ctab (ofL cE0) 20 occ40b ((List.range' 5 3).map (opAt occ40b)) (stc40b n x) [] (fun st' _ => exec ctab (ofL cE0) 20 (Code.at' [1, 1, 0, 1] bodyc40b) .none (finL ctab Sc40b) st') (fun _ _ _ _ _ => none) = FPc40b n x := by
  intro x
  kernel_rfl
theorem restRc40b (us : List Value) (x : Sc40b.inT) (y : Sc40b.outT) (w : World) (fp : FP) (β : Nat → Value) (hlen : us.length = Sc40b.n) (hdfs : fp.dfs = []) (hF : FRc40b x = some y) (R : Rel Try.prog w fp us.length β (Sc40b.inp.enc x) { tmps := us.toArray, defers := [] } w) :
    (Code.seq (.region 1 obc40b false) (.cond (.tmp 8) (.seq (.region 2 occ40b false) (Code.at' [1, 1, 0, 1] bodyc40b)) .skip)).wp Try.prog (bodyPost Try.prog Try.f40 (EndL Try.prog Sc40b fp w y)) (act2 Try.f40.ntmps 6 3 us .nilIface) w := by
  have nn : Try.f40.ntmps = 20 := by kernel_rfl
  obtain ⟨anc, hb, dfs⟩ := fp
  have hdfs : dfs = [] := hdfs
  subst hdfs
  match us, hlen with
  | [p0, p1, p2], _ =>
  rw [nn]
  have e0 : (opAt obc40b 0).dst = some 7 := by kernel_rfl
  have e1 : (opAt obc40b 1).dst = some 8 := by kernel_rfl
  have r1 : List.range obc40b.size = [0, 1] := by kernel_rfl
  refine wp_seq (wp_region ?_)
  rw [r1]
  refine wpOps_val (o := opAt obc40b 0) (v := .nilIface) (w' := w) (by kernel_rfl) (by kernel_rfl) (by kernel_rfl) ?_
  refine wpOps_val (o := opAt obc40b 1) (v := .bool false) (w' := w) (by kernel_rfl) (by kernel_rfl) (by kernel_rfl) ?_
  rw [e0, e1]
  refine wp_cond_false (by kernel_rfl) ?_
  refine rest_callsL cc40b (fn := Try.f40) (S := Sc40b) (c := .skip) (ann := .none) (y := y) (w := w) (w1 := w) (st := Sc40b.inp.enc x) (β := β) (fp := ⟨anc, hb, []⟩) (by kernel_rfl) (by kernel_rfl) (by kernel_rfl) noCuts rfl ((exRc40b x).trans hF) ?_
  refine R.act rfl (by kernel_rfl) (by decide) (fun t av ht => ?_)
  have h1 := R.env t av ht
  match t with
  | 0 => exact avEq h1 (by kernel_rfl)
  | 1 => exact avEq h1 (by kernel_rfl)
  | 2 => exact avEq h1 (by kernel_rfl)
  | t + 3 => cases ht
theorem restPc40b (n : Int) (us : List Value) (x : Sc40b.inT) (y : Sc40b.outT) (w : World) (fp : FP) (β : Nat → Value) (hlen : us.length = Sc40b.n) (hdfs : fp.dfs = []) (hF : FPc40b n x = some y) (R : Rel Try.prog w fp us.length β (Sc40b.inp.enc x) { tmps := us.toArray, defers := [] } w) :
    (Code.seq (.region 1 obc40b false) (.cond (.tmp 8) (.seq (.region 2 occ40b false) (Code.at' [1, 1, 0, 1] bodyc40b)) .skip)).wp Try.prog (bodyPost Try.prog Try.f40 (EndL Try.prog Sc40b fp w y)) (act2 Try.f40.ntmps 6 3 us (.iface 75 (.agg #[.int .i64 n]))) w := by
  have nn : Try.f40.ntmps = 20 := by kernel_rfl
  obtain ⟨anc, hb, dfs⟩ := fp
  have hdfs : dfs = [] := hdfs
  subst hdfs
  match us, hlen with
  | [p0, p1, p2], _ =>
  rw [nn]
  have e0 : (opAt obc40b 0).dst = some 7 := by kernel_rfl
  have e1 : (opAt obc40b 1).dst = some 8 := by kernel_rfl
  have d0 : (opAt occ40b 0).dst = some 10 := by kernel_rfl
  have d1 : (opAt occ40b 1).dst = some 11 := by kernel_rfl
  have d2 : (opAt occ40b 2).dst = some 9 := by kernel_rfl
  have d3 : (opAt occ40b 3).dst = some 12 := by kernel_rfl
  have d4 : (opAt occ40b 4).dst = some 13 := by kernel_rfl
  have r1 : List.range obc40b.size = [0, 1] := by kernel_rfl
  have r2 : List.range occ40b.size = 0 :: 1 :: 2 :: 3 :: 4 :: (List.range' 5 3 ++ []) := by kernel_rfl
  refine wp_seq (wp_region ?_)
  rw [r1]
  refine wpOps_val (o := opAt obc40b 0) (v := .iface 75 (.agg #[.int .i64 n])) (w' := w) (by kernel_rfl) (by kernel_rfl) (by kernel_rfl) ?_
  refine wpOps_val (o := opAt obc40b 1) (v := .bool true) (w' := w) (by kernel_rfl) (by kernel_rfl) (by kernel_rfl) ?_
  rw [e0, e1]
  refine wp_cond_true (by kernel_rfl) (wp_seq (wp_region ?_))
  rw [r2]
  refine wpOps_val (o := opAt occ40b 0) (v := .iface 75 (.agg #[.int .i64 n])) (w' := w) (by kernel_rfl) (by kernel_rfl) (by kernel_rfl) ?_
  refine wpOps_val (o := opAt occ40b 1) (v := .tuple #[.agg #[.int .i64 n], .bool true]) (w' := w) (by kernel_rfl) (by kernel_rfl) (by kernel_rfl) ?_
  refine wpOps_val (o := opAt occ40b 2) (v := .tuple #[.agg #[.int .i64 n], .bool true]) (w' := w) (by kernel_rfl) (by kernel_rfl) (by kernel_rfl) ?_
  refine wpOps_val (o := opAt occ40b 3) (v := .agg #[.int .i64 n]) (w' := w) (by kernel_rfl) (by kernel_rfl) (by kernel_rfl) ?_
  refine wpOps_val (o := opAt occ40b 4) (v := .bool true) (w' := w) (by kernel_rfl) (by kernel_rfl) (by kernel_rfl) ?_
  rw [d0, d1, d2, d3, d4]
  have e := exPc40b n x
  rw [hF] at e
  have hall := opAt_all (ops := occ40b) (i := 5) (k := 3) (by kernel_rfl)
  refine ops_sound cc40b (i := 5) (ops := (List.range' 5 3).map (opAt occ40b)) (w0 := w) (fp := ⟨anc, hb, []⟩) e hall ⟨β, ?_⟩ ?_ ?_
  · refine R.act rfl (by kernel_rfl) (by decide) (fun t av ht => ?_)
    by_cases h13 : t = 13
    · subst h13
      have ht : some (AV.c (.bool true)) = some av := ht
      cases ht
      exact avBool (by kernel_rfl)
    · by_cases h12 : t = 12
      · subst h12
        have ht : some (AV.agg [.int .i64 n]) = some av := ht
        cases ht
        exact avNum (by kernel_rfl)
      · have ht : upd (upd (Sc40b.inp.enc x).env 12 (some (.agg [.int .i64 n]))) 13 (some (.c (.bool true))) t = some av := ht
        rw [upd_ne _ _ h13, upd_ne _ _ h12] at ht
        have h1 := R.env t av ht
        match t with
        | 0 => exact avEq h1 (by kernel_rfl)
        | 1 => exact avEq h1 (by kernel_rfl)
        | 2 => exact avEq h1 (by kernel_rfl)
        | t + 3 => cases ht
  · rintro st' _ a w' h1 ⟨β', R'⟩
    exact wpOps_end (rest_callsL cc40b (fn := Try.f40) (S := Sc40b) (c := Code.at' [1, 1, 0, 1] bodyc40b) (ann := .none) (y := y) (w := w) (w1 := w') (st := st') (a := a) (β := β') (fp := ⟨anc, hb, []⟩) (by kernel_rfl) (by kernel_rfl) (by kernel_rfl) noCuts rfl h1 R')
  · intro t m st' rest _ a w' h1
    cases h1
theorem cloc40b {u u' : FrameMode} {v : Value} (hu : Recovers u u' v) {F : Sc40b.inT → Option Sc40b.outT} (hrest : ∀ (us : List Value) (x : Sc40b.inT) (y : Sc40b.outT) (w : World) (fp : FP) (β : Nat → Value), us.length = Sc40b.n → fp.dfs = [] → F x = some y → Rel Try.prog w fp us.length β (Sc40b.inp.enc x) { tmps := us.toArray, defers := [] } w →
      (Code.seq (.region 1 obc40b false) (.cond (.tmp 8) (.seq (.region 2 occ40b false) (Code.at' [1, 1, 0, 1] bodyc40b)) .skip)).wp Try.prog (bodyPost Try.prog Try.f40 (EndL Try.prog Sc40b fp w y)) (act2 Try.f40.ntmps 6 3 us v) w) : CallsDL Try.prog 40 Sc40b u u' F :=
  clo_callsDL2 (fn := Try.f40) (id := 0) (ops := oac40b) (t0 := 6) (t1 := 3) (v := v) (o0 := opAt oac40b 0) (o1 := opAt oac40b 1) (by kernel_rfl) (by kernel_rfl) (by kernel_rfl) (by kernel_rfl) (by kernel_rfl) (by kernel_rfl) (by kernel_rfl) (by kernel_rfl) (by kernel_rfl) (by kernel_rfl) (fun a w => by kernel_rfl) (fun a w => by kernel_rfl) hu hrest
theorem okc40b : CloOk Try.prog 40 Sc40b 75 FRc40b FPc40b := ⟨cloc40b (.inl ⟨rfl, rfl, rfl⟩) restRc40b, fun n => cloc40b (.inr ⟨rfl, rfl⟩) (restPc40b n)⟩

abbrev Sc8b : FL := ⟨⟨[], [.env 0 (.c (.fz (.int .u8)))], []⟩, 1, [(.ret, ⟨[], [.env 0 (.agg [.int .u64, .str, .str, .fz (.int .u8), .fz (.pair (.int .i64) (.pair .bool (.sl (.int .u8)))), .full 1]), .env 1 (.c (.fz (.int .u8))), .env 2 (.c (.int .i64)), .reg 1 (.row 5 .u8)], [(1, .env 0 5)]⟩)], [.cell 2 26, .cell 3 22, .cell 4 27], true⟩
noncomputable def bodyc8b : Code := (Try.f8.body).getD .skip
noncomputable def oac8b : Array Oper := opsOf (Code.at' [1, 0] bodyc8b)
theorem atc8b : bodyc8b = .seq (Code.at' [0] bodyc8b) (.seq (.region 1 oac8b false) (Code.at' [1, 1] bodyc8b)) := by kernel_rfl
abbrev SMc8b : FL := ⟨⟨[(2, .ptr 1000000 0 6), (3, .ptr 1000001 0 1), (4, .ptr 1000002 0 1)], [.env 0 (.c (.fz (.int .u8))), .reg 1000000 (.cells [.int .u64, .str, .str, .fz (.int .u8), .fz (.pair (.int .i64) (.pair .bool (.sl (.int .u8)))), .full 1000003]), .reg 1000001 (.cells [.fz (.int .u8)]), .reg 1000002 (.cells [.int .i64]), .reg 1000003 (.row 5 .u8)], [(1000000, .env 2 0), (1000001, .env 3 0), (1000002, .env 4 0), (1000003, .reg 1000000 5)]⟩, 5, [(.ret, ⟨[], [.env 0 (.agg [.int .u64, .str, .str, .fz (.int .u8), .fz (.pair (.int .i64) (.pair .bool (.sl (.int .u8)))), .full 1]), .env 1 (.c (.fz (.int .u8))), .env 2 (.c (.int .i64)), .reg 1 (.row 5 .u8)], [(1, .env 0 5)]⟩)], [.cell 2 26, .cell 3 22, .cell 4 27], true⟩
noncomputable def cc8b : Ctx Try.prog := ⟨ctab, ofL Ec4, ctabOk, Ec4_ok, cdep, cord⟩
noncomputable def FMc8b : List Int × (Int × ByteArray × ByteArray × List Int × List (Int × Bool × List Int) × Unit) × List Int × Int × List Int → Option ((Int × ByteArray × ByteArray × List Int × List (Int × Bool × List Int) × Unit) × List Int × Int × List Int) := fun (b, c, s, e, r) =>
    (Fc41 b).bind fun (y1, y2) =>
      if (y2 != 0) = true then (FRc40b ((0, ByteArray.empty, ByteArray.empty, [], [], ()), [], y2, [])).bind fun (c', s', e', r') => some (c', s', e', r')
      else (Fc42 (Tree.node y1.tag y1.body y1.kids)).bind fun
        | .inl (e3, _) => (FPc40b e3 (c, s, y2, r)).bind fun (c', s', e', r') => some (c', s', e', r')
        | .inr (y4, y5, y6, y7) =>
          (Fc43 (y4.1, (y4.2.1, (y4.2.2.1, (y5, (y6, y7)))))).bind fun y8 =>
            if (y8 == 134) = false then
              if ((y7.length : Int) != 3373) = true then (Fc44 134).bind fun (e9, _) => (FPc40b e9 ((y4.1, y4.2.1, y4.2.2.1, y5, y6, ()), s, y2, y7)).bind fun (c', s', e', r') => some (c', s', e', r')
              else
                if (y8 != 0) = true then (Fc44 y8).bind fun (e10, _) => (FPc40b e10 ((y4.1, y4.2.1, y4.2.2.1, y5, y6, ()), s, y2, y7)).bind fun (c', s', e', r') => some (c', s', e', r')
                else
                  if (0 : Int) ≤ (0 : Int) ∧ (0 : Int) < (y1.kids.length : Int) then
                    (Fc45 (Tree.node (y1.kids.getD 0 (DT.dflt .item)).tag (y1.kids.getD 0 (DT.dflt .item)).body (y1.kids.getD 0 (DT.dflt .item)).kids)).bind fun (y11, y12) => (FRc40b ((y4.1, y4.2.1, y4.2.2.1, y5, y6, ()), y11, 0, y7)).bind fun (c', s', e', r') => some (c', s', e', r')
                  else none
            else (Fc44 134).bind fun (e13, _) => (FPc40b e13 ((y4.1, y4.2.1, y4.2.2.1, y5, y6, ()), s, y2, y7)).bind fun (c', s', e', r') => some (c', s', e', r')
noncomputable def Fc8b : List Int → Option ((Int × ByteArray × ByteArray × List Int × List (Int × Bool × List Int) × Unit) × List Int × Int × List Int) := fun (b : List Int) => (FMc8b (b, (0, ByteArray.empty, ByteArray.empty, [], [], ()), [], 0, [])).bind fun (c, s, e, r) => some (c, s, e, r)
theorem eqMc8b : ∀ x, exec ctab (ofL Ec4) 43 (Code.at' [1, 1] bodyc8b) .none (finD ctab SMc8b [2, 3, 4] (SMc8b.inp.enc x) (funEntL Sc40b false FRc40b) 75 (fun n => funEntL Sc40b false (FPc40b n))) (SMc8b.inp.enc x) = FMc8b x := by
  rintro ⟨b, c, s, e, r⟩
  kernel_rfl
theorem eqc8b : ∀ x, deferF ctab (ofL Ec4) 43 (Code.at' [0] bodyc8b) .none Sc8b SMc8b [0, 2, 3, 4] 7 FMc8b x = Fc8b x := by
  intro b
  kernel_rfl
theorem callsc8b : CallsL Try.prog 8 Sc8b Fc8b :=
  defer_callsL cc8b (fn := Try.f8) (fnc := Try.f40) (A := Code.at' [0] bodyc8b) (rest := Code.at' [1, 1] bodyc8b) (id := 1) (ops := oac8b) (cc := bodyc40b) (o0 := opAt oac8b 0) (o1 := opAt oac8b 1) (tc := 7) (pt := 75) (cs := [2, 3, 4]) (kn := [0, 2, 3, 4]) (SM := SMc8b) (SC := Sc40b) (annA := .none) (ann := .none) (FR := FRc40b) (FPn := FPc40b) (FM := FMc8b)
    (by kernel_rfl) (by kernel_rfl) (by kernel_rfl) (by kernel_rfl) (by kernel_rfl) (by kernel_rfl) (by kernel_rfl) (by kernel_rfl) (by kernel_rfl) (by kernel_rfl)
    (fun a w => by kernel_rfl) (fun a w vs h => defer_run (o := opAt oac8b 1) (ats := #[]) (by kernel_rfl) h)
    (by kernel_rfl) (by kernel_rfl) (by kernel_rfl) (by kernel_rfl) okc40b (by kernel_rfl) (by kernel_rfl) (by kernel_rfl) (by kernel_rfl) (by kernel_rfl) (by kernel_rfl) (by kernel_rfl)
    noCuts noCuts eqMc8b eqc8b
theorem entc8b : EntOk Try.prog 8 (funEntL Sc8b true Fc8b) := fun_okL (fn := Try.f8) (c := bodyc8b) (by kernel_rfl) (by kernel_rfl) (by kernel_rfl) (by kernel_rfl) callsc8b

noncomputable def Ec8b : List (Nat × Ent) := (8, funEntL Sc8b true Fc8b) :: Ec4
theorem Ec8b_ok : EntsOk Try.prog (ofL Ec8b) := .cons entc8b Ec4_ok

/-! ### barbican/barbicanlaw13.CertBack -/
noncomputable def bodyc5 : Code := (Try.f5.body).getD .skip
abbrev Sc5 : FL := ⟨⟨[], [.env 0 (.agg [.int .u64, .str, .str, .fz (.int .u8), .fz (.pair (.int .i64) (.pair .bool (.sl (.int .u8)))), .fz (.int .u8), .bool, .fz (.int .u8), .fz (.int .u8)]), .env 1 (.c (.fz (.int .u8)))], []⟩, 2, [(.ret, ⟨[], [.env 0 (.c (.bool))], []⟩)], [.tmp 4], false⟩
noncomputable def cc5 : Ctx Try.prog := ⟨ctab, ofL Ec8b, ctabOk, Ec8b_ok, cdep, cord⟩
noncomputable def Fc5 : (Int × ByteArray × ByteArray × (List Int) × (List (Int × (Bool × (List Int)))) × (List Int) × Bool × (List Int) × (List Int)) × (List Int) → Option ((Bool))
  | (a0, a1) =>
  (Fc13 (a0.1, a0.2.1, a0.2.2.1, a0.2.2.2.1, a0.2.2.2.2.1, a0.2.2.2.2.2.1, a0.2.2.2.2.2.2.1, a0.2.2.2.2.2.2.2.1, a0.2.2.2.2.2.2.2.2)).bind fun y1 =>
   (Fc16 (y1.1, y1.2.1, y1.2.2.1, y1.2.2.2.1, y1.2.2.2.2.1, y1.2.2.2.2.2)).bind fun (y2, y3) =>
    if (y3 == 0) = true then
     (Fc8b y2).bind fun (y4, y5, y6, y7) =>
      (Fc15 (y1.1, y1.2.1, y1.2.2.1, y1.2.2.2.1, y1.2.2.2.2.1, y1.2.2.2.2.2)).bind fun (y8, y9) =>
       (Fc9 ((y4.1, y4.2.1, y4.2.2.1, y4.2.2.2.1, y4.2.2.2.2.1, y7), (y1.1, y1.2.1, y1.2.2.1, y1.2.2.2.1, y1.2.2.2.2.1, y1.2.2.2.2.2))).bind fun y10 =>
        (Fc10 (y5, y8)).bind fun y11 =>
         if (y6 != 0) = false then
          if (y9 != 0) = false then
           if (!y10) = false then
            if (!y11) = true then
             some false
            else
             if (0 : Int) ≤ (0 : Int) ∧ (0 : Int) < (y7.length : Int) then
              if (0 : Int) ≤ (0 : Int) ∧ (0 : Int) < (y7.length : Int) then
               (Fc15 (y4.1, y4.2.1, y4.2.2.1, y4.2.2.2.1, y4.2.2.2.2.1, (y7.set 0 (bitsXor .u8 (y7.getD 0 0) 1)))).bind fun (y12, y13) =>
                (Fc10 (y12, y8)).bind fun y14 =>
                 if (y13 != 0) = false then
                  if (!y14) = true then
                   some false
                  else
                   (Fc8b a1).bind fun (y15, y16, y17, y18) =>
                    if (y17 != 0) = true then
                     (Fc12 ()).bind fun y19 =>
                      some y19
                    else
                     (Fc16 (y15.1, y15.2.1, y15.2.2.1, y15.2.2.2.1, y15.2.2.2.2.1, y18)).bind fun (y20, y21) =>
                      (Fc12 ()).bind fun y22 =>
                       if y22 = true then
                        if (y21 == 0) = true then
                         (Fc10 (y20, a1)).bind fun y23 =>
                          some y23
                        else
                         some false
                       else
                        some false
                 else
                  some false
              else none
             else none
           else
            some false
          else
           some false
         else
          some false
    else
     (Fc8b a1).bind fun (y24, y25, y26, y27) =>
      if (y26 != 0) = true then
       (Fc12 ()).bind fun y28 =>
        some y28
      else
       (Fc16 (y24.1, y24.2.1, y24.2.2.1, y24.2.2.2.1, y24.2.2.2.2.1, y27)).bind fun (y29, y30) =>
        (Fc12 ()).bind fun y31 =>
         if y31 = true then
          if (y30 == 0) = true then
           (Fc10 (y29, a1)).bind fun y32 =>
            some y32
          else
           some false
         else
          some false

noncomputable def annc5 : Ann := .none
theorem eqc5 : ∀ x : Sc5.inT, exec ctab (ofL Ec8b) 109 bodyc5 annc5 (finL ctab Sc5) (Sc5.inp.enc x) = Fc5 x := by
  rintro ⟨a0, a1⟩
  kernel_rfl
theorem callsc5 : CallsL Try.prog 5 Sc5 Fc5 := by
  refine fun_callsL (fn := Try.f5) (c := bodyc5) (ann := annc5) cc5 (by kernel_rfl) (by kernel_rfl) (by kernel_rfl) (by kernel_rfl) (by kernel_rfl) (annOk_of_cuts ?_) eqc5
  intro x hx
  exact absurd hx (by show x ∉ ([] : List (List Nat × LEnt)); simp)

theorem entc5 : EntOk Try.prog 5 (funEntL Sc5 true Fc5) := fun_okL (fn := Try.f5) (c := bodyc5) (by kernel_rfl) (by kernel_rfl) (by kernel_rfl) (by kernel_rfl) callsc5
noncomputable def Ec5 : List (Nat × Ent) := (5, (funEntL Sc5 true Fc5)) :: Ec8b
theorem Ec5_ok : EntsOk Try.prog (ofL Ec5) := .cons entc5 Ec8b_ok

/-! ### barbican/cert.Find -/
noncomputable def bodyc19 : Code := (Try.f19.body).getD .skip
abbrev Sc19 : FL := ⟨⟨[], [.env 0 (.agg [.int .u64, .str, .str, .fz (.int .u8), .fz (.pair (.int .i64) (.pair .bool (.sl (.int .u8)))), .fz (.int .u8)]), .env 1 (.c (.int .i64))], []⟩, 2, [(.ret, ⟨[], [.env 0 (.agg [.int .i64, .bool, .full 1]), .reg 1 (.row 5 .u8), .env 1 (.c (.bool))], [(1, .env 0 2)]⟩)], [.cell 4 45, .tmp 5], false⟩
noncomputable def cc19 : Ctx Try.prog := ⟨ctab, ofL Ec5, ctabOk, Ec5_ok, cdep, cord⟩
abbrev lc19_0 : Lay := ⟨[(4, .ptr 4 0 3)], [.env 1 (.c (.int .i64)), .env 9 (.c (.fz (.pair (.int .i64) (.pair .bool (.sl (.int .u8)))))), .env 10 (.c (.int .i64)), .env 11 (.c (.int .i64)), .reg 4 (.cells [.int .i64, .bool, .nils])], [(4, .env 4 0)]⟩
abbrev oc19_0 : List (AExit × Lay) := [(.ret, ⟨[(4, .ptr 4 0 3)], [.env 5 (.c (.bool)), .reg 4 (.cells [.int .i64, .bool, .full 1021]), .reg 1021 (.row 5 .u8)], [(4, .env 4 0), (1021, .reg 4 2)]⟩), (.exit 0, ⟨[(4, .ptr 4 0 3)], [.reg 4 (.cells [.int .i64, .bool, .nils])], [(4, .env 4 0)]⟩)]
noncomputable def stepc19_0 : Int × (List (Int × (Bool × (List Int)))) × Int × Int × (Int × Bool × Unit) → Option ((Int × (List (Int × (Bool × (List Int)))) × Int × Int × (Int × Bool × Unit)) ⊕ ((Bool × (Int × Bool × Unit) × List Int) ⊕ (Int × Bool × Unit)))
  | (t1, t9, t10, t11, r4) =>
  if (decide (t11 < t10)) = true then
   if (0 : Int) ≤ t11 ∧ t11 < (t9.length : Int) then
    let x1 : Int := (t9.getD t11.toNat (DT.dflt (.pair (.int .i64) (.pair .bool (.sl (.int .u8)))))).1
    let x2 : Bool := (t9.getD t11.toNat (DT.dflt (.pair (.int .i64) (.pair .bool (.sl (.int .u8)))))).2.1
    let f3 : List Int := (t9.getD t11.toNat (DT.dflt (.pair (.int .i64) (.pair .bool (.sl (.int .u8)))))).2.2
    if (x1 == t1) = true then
     (Fc50 f3).bind fun y4 =>
      some (.inr (.inl (true, (x1, x2, ()), y4)))
    else
     some (.inl (t1, t9, t10, (IntKind.i64.wrap (t11 + 1)), (r4.1, r4.2.1, ())))
   else none
  else
   some (.inr (.inr (r4.1, r4.2.1, ())))

noncomputable def annc19_0 : Ann := .none
noncomputable def Fc19 : (Int × ByteArray × ByteArray × (List Int) × (List (Int × (Bool × (List Int)))) × (List Int)) × Int → Option (((Int × Bool × Unit) × List Int × Bool))
  | (a0, a1) =>
  (loopO stepc19_0 (a1, a0.2.2.2.2.1, (a0.2.2.2.2.1.length : Int), 0, (0, false, ()))).bind fun
   | (.inl (z5, z6, z7)) =>
    some ((z6.1, z6.2.1, ()), z7, z5)
   | (.inr z8) =>
    some ((0, false, ()), ([] : List Int), false)

noncomputable def annc19 : Ann := (.seq .none (.seq (.seq .none (.seq (.cut (cutEnt lc19_0 oc19_0 (loopO (stepc19_0)))) .none)) .none))
theorem eqc19_0 : ∀ s : lc19_0.T, exec ctab (ofL Ec5) 26 (Code.at' [1, 0, 1, 0, 0] bodyc19) annc19_0 (fun e st => loopEnd (l := lc19_0) (outs := oc19_0) e st) (lc19_0.enc s) = stepc19_0 s := by
  rintro ⟨t1, t9, t10, t11, r4⟩
  kernel_rfl
theorem okc19_0 : LOk Try.prog 26 (cutEnt lc19_0 oc19_0 (loopO stepc19_0)) (Code.at' [1, 0, 1, 0] bodyc19) := by
  have e : Code.at' [1, 0, 1, 0] bodyc19 = .loop (Code.at' [1, 0, 1, 0, 0] bodyc19) := by kernel_rfl
  rw [e]
  refine loop_ok cc19 26 rfl rfl (annOk_of_cuts ?_) eqc19_0
  intro x hx
  exact absurd hx (by show x ∉ ([] : List (List Nat × LEnt)); simp)

theorem eqc19 : ∀ x : Sc19.inT, exec ctab (ofL Ec5) 26 bodyc19 annc19 (finL ctab Sc19) (Sc19.inp.enc x) = Fc19 x := by
  rintro ⟨a0, a1⟩
  kernel_rfl
theorem callsc19 : CallsL Try.prog 19 Sc19 Fc19 := by
  refine fun_callsL (fn := Try.f19) (c := bodyc19) (ann := annc19) cc19 (by kernel_rfl) (by kernel_rfl) (by kernel_rfl) (by kernel_rfl) (by kernel_rfl) (annOk_of_cuts ?_) eqc19
  have hc : Ann.cuts annc19 = [([1, 0, 1, 0], (cutEnt lc19_0 oc19_0 (loopO (stepc19_0))))] := by kernel_rfl
  rw [hc]
  intro x hx
  simp only [List.mem_cons, List.not_mem_nil, or_false] at hx
  rcases hx with rfl
  · have e : Code.at' [1, 0, 1, 0] bodyc19 = Code.at' [1, 0, 1, 0] bodyc19 := by kernel_rfl
    rw [e]; exact okc19_0

theorem entc19 : EntOk Try.prog 19 (funEntL Sc19 true Fc19) := fun_okL (fn := Try.f19) (c := bodyc19) (by kernel_rfl) (by kernel_rfl) (by kernel_rfl) (by kernel_rfl) callsc19
noncomputable def Ec19 : List (Nat × Ent) := (19, (funEntL Sc19 true Fc19)) :: Ec5
theorem Ec19_ok : EntsOk Try.prog (ofL Ec19) := .cons entc19 Ec5_ok

/-! ### barbican/barbicanref13.Find -/
noncomputable def bodyc20 : Code := (Try.f20.body).getD .skip
abbrev Sc20 : FL := ⟨⟨[], [.env 0 (.agg [.int .u64, .str, .str, .fz (.int .u8), .fz (.pair (.int .i64) (.pair .bool (.sl (.int .u8)))), .fz (.int .u8)]), .env 1 (.c (.int .i64))], []⟩, 2, [(.ret, ⟨[], [.env 0 (.agg [.int .i64, .bool, .fz (.int .u8)]), .env 1 (.c (.bool))], []⟩)], [.cell 4 45, .tmp 5], true⟩
noncomputable def cc20 : Ctx Try.prog := ⟨ctab, ofL Ec19, ctabOk, Ec19_ok, cdep, cord⟩
abbrev lc20_0 : Lay := ⟨[(2, .ptr 2 0 6), (4, .ptr 4 0 3)], [.env 1 (.c (.int .i64)), .env 6 (.c (.int .i64)), .reg 2 (.cells [.int .u64, .str, .str, .fz (.int .u8), .fz (.pair (.int .i64) (.pair .bool (.sl (.int .u8)))), .fz (.int .u8)]), .reg 4 (.cells [.int .i64, .bool, .nils])], [(2, .env 2 0), (4, .env 4 0)]⟩
abbrev oc20_0 : List (AExit × Lay) := [(.ret, ⟨[(4, .ptr 4 0 3)], [.env 5 (.c (.bool)), .reg 4 (.cells [.int .i64, .bool, .fz (.int .u8)])], [(4, .env 4 0)]⟩), (.exit 0, ⟨[(4, .ptr 4 0 3)], [.reg 4 (.cells [.int .i64, .bool, .nils])], [(4, .env 4 0)]⟩)]
noncomputable def stepc20_0 : Int × Int × (Int × ByteArray × ByteArray × (List Int) × (List (Int × (Bool × (List Int)))) × (List Int)) × (Int × Bool × Unit) → Option ((Int × Int × (Int × ByteArray × ByteArray × (List Int) × (List (Int × (Bool × (List Int)))) × (List Int)) × (Int × Bool × Unit)) ⊕ ((Bool × (Int × Bool × (List Int))) ⊕ (Int × Bool × Unit)))
  | (t1, t6, r2, r4) =>
  if (decide (t6 < (r2.2.2.2.2.1.length : Int))) = true then
   if (0 : Int) ≤ t6 ∧ t6 < (r2.2.2.2.2.1.length : Int) then
    let x1 : Int := (r2.2.2.2.2.1.getD t6.toNat (DT.dflt (.pair (.int .i64) (.pair .bool (.sl (.int .u8)))))).1
    if (x1 == t1) = true then
     if (0 : Int) ≤ t6 ∧ t6 < (r2.2.2.2.2.1.length : Int) then
      let x2 : Int := (r2.2.2.2.2.1.getD t6.toNat (DT.dflt (.pair (.int .i64) (.pair .bool (.sl (.int .u8)))))).1
      let x3 : Bool := (r2.2.2.2.2.1.getD t6.toNat (DT.dflt (.pair (.int .i64) (.pair .bool (.sl (.int .u8)))))).2.1
      let f4 : List Int := (r2.2.2.2.2.1.getD t6.toNat (DT.dflt (.pair (.int .i64) (.pair .bool (.sl (.int .u8)))))).2.2
      some (.inr (.inl (true, (x2, x3, f4))))
     else none
    else
     some (.inl (t1, (IntKind.i64.wrap (t6 + 1)), (r2.1, r2.2.1, r2.2.2.1, r2.2.2.2.1, r2.2.2.2.2.1, r2.2.2.2.2.2), (r4.1, r4.2.1, ())))
   else none
  else
   some (.inr (.inr (r4.1, r4.2.1, ())))

noncomputable def annc20_0 : Ann := .none
noncomputable def Fc20 : (Int × ByteArray × ByteArray × (List Int) × (List (Int × (Bool × (List Int)))) × (List Int)) × Int → Option (((Int × Bool × (List Int)) × Bool))
  | (a0, a1) =>
  (loopO stepc20_0 (a1, 0, (a0.1, a0.2.1, a0.2.2.1, a0.2.2.2.1, a0.2.2.2.2.1, a0.2.2.2.2.2), (0, false, ()))).bind fun
   | (.inl (z5, z6)) =>
    some ((z6.1, z6.2.1, z6.2.2), z5)
   | (.inr z7) =>
    some ((0, false, ([] : List Int)), false)

noncomputable def annc20 : Ann := (.seq .none (.seq (.seq .none (.seq (.cut (cutEnt lc20_0 oc20_0 (loopO (stepc20_0)))) .none)) .none))
theorem eqc20_0 : ∀ s : lc20_0.T, exec ctab (ofL Ec19) 28 (Code.at' [1, 0, 1, 0, 0] bodyc20) annc20_0 (fun e st => loopEnd (l := lc20_0) (outs := oc20_0) e st) (lc20_0.enc s) = stepc20_0 s := by
  rintro ⟨t1, t6, r2, r4⟩
  kernel_rfl
theorem okc20_0 : LOk Try.prog 28 (cutEnt lc20_0 oc20_0 (loopO stepc20_0)) (Code.at' [1, 0, 1, 0] bodyc20) := by
  have e : Code.at' [1, 0, 1, 0] bodyc20 = .loop (Code.at' [1, 0, 1, 0, 0] bodyc20) := by kernel_rfl
  rw [e]
  refine loop_ok cc20 28 rfl rfl (annOk_of_cuts ?_) eqc20_0
  intro x hx
  exact absurd hx (by show x ∉ ([] : List (List Nat × LEnt)); simp)

theorem eqc20 : ∀ x : Sc20.inT, exec ctab (ofL Ec19) 28 bodyc20 annc20 (finL ctab Sc20) (Sc20.inp.enc x) = Fc20 x := by
  rintro ⟨a0, a1⟩
  kernel_rfl
theorem callsc20 : CallsL Try.prog 20 Sc20 Fc20 := by
  refine fun_callsL (fn := Try.f20) (c := bodyc20) (ann := annc20) cc20 (by kernel_rfl) (by kernel_rfl) (by kernel_rfl) (by kernel_rfl) (by kernel_rfl) (annOk_of_cuts ?_) eqc20
  have hc : Ann.cuts annc20 = [([1, 0, 1, 0], (cutEnt lc20_0 oc20_0 (loopO (stepc20_0))))] := by kernel_rfl
  rw [hc]
  intro x hx
  simp only [List.mem_cons, List.not_mem_nil, or_false] at hx
  rcases hx with rfl
  · have e : Code.at' [1, 0, 1, 0] bodyc20 = Code.at' [1, 0, 1, 0] bodyc20 := by kernel_rfl
    rw [e]; exact okc20_0

theorem entc20 : EntOk Try.prog 20 (funEntL Sc20 true Fc20) := fun_okL (fn := Try.f20) (c := bodyc20) (by kernel_rfl) (by kernel_rfl) (by kernel_rfl) (by kernel_rfl) callsc20
noncomputable def Ec20 : List (Nat × Ent) := (20, (funEntL Sc20 true Fc20)) :: Ec19
theorem Ec20_ok : EntsOk Try.prog (ofL Ec20) := .cons entc20 Ec19_ok

/-! ### barbican/cert.value -/
noncomputable def bodyc51 : Code := (Try.f51.body).getD .skip
abbrev Sc51 : FL := ⟨⟨[(0, .ptr 1000000 0 6)], [.reg 1000000 (.cells [.int .u64, .str, .str, .fz (.int .u8), .fz (.pair (.int .i64) (.pair .bool (.sl (.int .u8)))), .fz (.int .u8)]), .env 1 (.c (.int .i64))], [(1000000, .env 0 0)]⟩, 2, [(.ret, ⟨[], [.env 0 (.dat .item), .env 1 (.c (.int .i64)), .reg 1000000 (.cells [.int .u64, .str, .str, .fz (.int .u8), .fz (.pair (.int .i64) (.pair .bool (.sl (.int .u8)))), .fz (.int .u8)])], []⟩)], [.cell 4 58, .tmp 5], true⟩
noncomputable def cc51 : Ctx Try.prog := ⟨ctab, ofL Ec20, ctabOk, Ec20_ok, cdep, cord⟩
noncomputable def Fc51 : (Int × ByteArray × ByteArray × (List Int) × (List (Int × (Bool × (List Int)))) × (List Int)) × Int → Option ((Tree × Int × (Int × ByteArray × ByteArray × (List Int) × (List (Int × (Bool × (List Int)))) × (List Int))))
  | (io, a1) =>
  (Fc19 ((io.1, io.2.1, io.2.2.1, io.2.2.2.1, io.2.2.2.2.1, io.2.2.2.2.2), a1)).bind fun (y1, y2, y3) =>
   if (!y3) = true then
    some ((Tree.node 0 ([] : List Int) ([] : List Tree)), 131, (io.1, io.2.1, io.2.2.1, io.2.2.2.1, io.2.2.2.2.1, io.2.2.2.2.2))
   else
    (Fc41 y2).bind fun (y4, y5) =>
     if (y5 != 0) = true then
      some ((Tree.node 0 ([] : List Int) ([] : List Tree)), 134, (io.1, io.2.1, io.2.2.1, io.2.2.2.1, io.2.2.2.2.1, io.2.2.2.2.2))
     else
      some ((Tree.node y4.tag y4.body y4.kids), 0, (io.1, io.2.1, io.2.2.1, io.2.2.2.1, io.2.2.2.2.1, io.2.2.2.2.2))

noncomputable def annc51 : Ann := .none
theorem eqc51 : ∀ x : Sc51.inT, exec ctab (ofL Ec20) 31 bodyc51 annc51 (finL ctab Sc51) (Sc51.inp.enc x) = Fc51 x := by
  rintro ⟨io, a1⟩
  kernel_rfl
theorem callsc51 : CallsL Try.prog 51 Sc51 Fc51 := by
  refine fun_callsL (fn := Try.f51) (c := bodyc51) (ann := annc51) cc51 (by kernel_rfl) (by kernel_rfl) (by kernel_rfl) (by kernel_rfl) (by kernel_rfl) (annOk_of_cuts ?_) eqc51
  intro x hx
  exact absurd hx (by show x ∉ ([] : List (List Nat × LEnt)); simp)

theorem entc51 : EntOk Try.prog 51 (funEntL Sc51 true Fc51) := fun_okL (fn := Try.f51) (c := bodyc51) (by kernel_rfl) (by kernel_rfl) (by kernel_rfl) (by kernel_rfl) callsc51
noncomputable def Ec51 : List (Nat × Ent) := (51, (funEntL Sc51 true Fc51)) :: Ec20
theorem Ec51_ok : EntsOk Try.prog (ofL Ec51) := .cons entc51 Ec20_ok

/-! ### barbican/cert.Counter -/
noncomputable def bodyc21 : Code := (Try.f21.body).getD .skip
abbrev Sc21 : FL := ⟨⟨[], [.env 0 (.agg [.int .u64, .str, .str, .fz (.int .u8), .fz (.pair (.int .i64) (.pair .bool (.sl (.int .u8)))), .fz (.int .u8)]), .env 1 (.c (.int .i64))], []⟩, 2, [(.ret, ⟨[], [.env 0 (.c (.int .u32)), .env 1 (.c (.int .i64))], []⟩)], [.tmp 4, .tmp 5], false⟩
noncomputable def cc21 : Ctx Try.prog := ⟨ctab, ofL Ec51, ctabOk, Ec51_ok, cdep, cord⟩
noncomputable def Fc21 : (Int × ByteArray × ByteArray × (List Int) × (List (Int × (Bool × (List Int)))) × (List Int)) × Int → Option ((Int × Int))
  | (a0, a1) =>
  (Fc51 ((a0.1, a0.2.1, a0.2.2.1, a0.2.2.2.1, a0.2.2.2.2.1, a0.2.2.2.2.2), a1)).bind fun (y1, y2, y3) =>
   if (y2 != 0) = true then
    some (0, y2)
   else
    (Fc52 (Tree.node y1.tag y1.body y1.kids)).bind fun (y4, y5) =>
     if (y5 != 0) = false then
      if (decide (y4 > 4294967295)) = true then
       some (0, 134)
      else
       some ((IntKind.u32.wrap y4), 0)
     else
      some (0, 134)

noncomputable def annc21 : Ann := .none
theorem eqc21 : ∀ x : Sc21.inT, exec ctab (ofL Ec51) 30 bodyc21 annc21 (finL ctab Sc21) (Sc21.inp.enc x) = Fc21 x := by
  rintro ⟨a0, a1⟩
  kernel_rfl
theorem callsc21 : CallsL Try.prog 21 Sc21 Fc21 := by
  refine fun_callsL (fn := Try.f21) (c := bodyc21) (ann := annc21) cc21 (by kernel_rfl) (by kernel_rfl) (by kernel_rfl) (by kernel_rfl) (by kernel_rfl) (annOk_of_cuts ?_) eqc21
  intro x hx
  exact absurd hx (by show x ∉ ([] : List (List Nat × LEnt)); simp)

theorem entc21 : EntOk Try.prog 21 (funEntL Sc21 true Fc21) := fun_okL (fn := Try.f21) (c := bodyc21) (by kernel_rfl) (by kernel_rfl) (by kernel_rfl) (by kernel_rfl) callsc21
noncomputable def Ec21 : List (Nat × Ent) := (21, (funEntL Sc21 true Fc21)) :: Ec51
theorem Ec21_ok : EntsOk Try.prog (ofL Ec21) := .cons entc21 Ec51_ok

/-! ### barbican/cert.Hash -/
noncomputable def bodyc22 : Code := (Try.f22.body).getD .skip
abbrev Sc22 : FL := ⟨⟨[], [.env 0 (.agg [.int .u64, .str, .str, .fz (.int .u8), .fz (.pair (.int .i64) (.pair .bool (.sl (.int .u8)))), .fz (.int .u8)]), .env 1 (.c (.int .i64))], []⟩, 2, [(.ret, ⟨[], [.env 0 (.agg [.ints .u8 32]), .env 1 (.c (.int .i64))], []⟩)], [.cell 4 51, .tmp 5], false⟩
noncomputable def cc22 : Ctx Try.prog := ⟨ctab, ofL Ec21, ctabOk, Ec21_ok, cdep, cord⟩
noncomputable def Fc22 : (Int × ByteArray × ByteArray × (List Int) × (List (Int × (Bool × (List Int)))) × (List Int)) × Int → Option (((Nat → Int) × Int))
  | (a0, a1) =>
  (Fc51 ((a0.1, a0.2.1, a0.2.2.1, a0.2.2.2.1, a0.2.2.2.2.1, a0.2.2.2.2.2), a1)).bind fun (y1, y2, y3) =>
   if (y2 != 0) = true then
    some ((fun _ => 0), y2)
   else
    if (y1.tag != 4) = false then
     if ((y1.body.length : Int) != 32) = true then
      some ((fun _ => 0), 134)
     else
      if (32 : Int) ≤ (y1.body.length : Int) then
       some ((fun j => List.getD (α := Int) y1.body j 0), 0)
      else none
    else
     some ((fun _ => 0), 134)

noncomputable def annc22 : Ann := .none
theorem eqc22 : ∀ x : Sc22.inT, exec ctab (ofL Ec21) 33 bodyc22 annc22 (finL ctab Sc22) (Sc22.inp.enc x) = Fc22 x := by
  rintro ⟨a0, a1⟩
  kernel_rfl
theorem callsc22 : CallsL Try.prog 22 Sc22 Fc22 := by
  refine fun_callsL (fn := Try.f22) (c := bodyc22) (ann := annc22) cc22 (by kernel_rfl) (by kernel_rfl) (by kernel_rfl) (by kernel_rfl) (by kernel_rfl) (annOk_of_cuts ?_) eqc22
  intro x hx
  exact absurd hx (by show x ∉ ([] : List (List Nat × LEnt)); simp)

theorem entc22 : EntOk Try.prog 22 (funEntL Sc22 true Fc22) := fun_okL (fn := Try.f22) (c := bodyc22) (by kernel_rfl) (by kernel_rfl) (by kernel_rfl) (by kernel_rfl) callsc22
noncomputable def Ec22 : List (Nat × Ent) := (22, (funEntL Sc22 true Fc22)) :: Ec21
theorem Ec22_ok : EntsOk Try.prog (ofL Ec22) := .cons entc22 Ec21_ok

/-! ### barbican/cert.Key -/
noncomputable def bodyc23 : Code := (Try.f23.body).getD .skip
abbrev Sc23 : FL := ⟨⟨[], [.env 0 (.agg [.int .u64, .str, .str, .fz (.int .u8), .fz (.pair (.int .i64) (.pair .bool (.sl (.int .u8)))), .fz (.int .u8)]), .env 1 (.c (.int .i64))], []⟩, 2, [(.ret, ⟨[(0, .full 1)], [.reg 1 (.row 5 .u8), .env 1 (.c (.int .i64))], [(1, .env 0 0)]⟩)], [.tmp 4, .tmp 5], false⟩
noncomputable def cc23 : Ctx Try.prog := ⟨ctab, ofL Ec22, ctabOk, Ec22_ok, cdep, cord⟩
noncomputable def Fc23 : (Int × ByteArray × ByteArray × (List Int) × (List (Int × (Bool × (List Int)))) × (List Int)) × Int → Option ((List Int × Int))
  | (a0, a1) =>
  (Fc51 ((a0.1, a0.2.1, a0.2.2.1, a0.2.2.2.1, a0.2.2.2.2.1, a0.2.2.2.2.2), a1)).bind fun (y1, y2, y3) =>
   if (y2 != 0) = true then
    some (([] : List Int), y2)
   else
    (Fc53 (Tree.node y1.tag y1.body y1.kids)).bind fun (y4, y5) =>
     if (y5 != 0) = false then
      if ((y4.length : Int) != 2017) = true then
       some (([] : List Int), 134)
      else
       some (y4, 0)
     else
      some (([] : List Int), 134)

noncomputable def annc23 : Ann := .none
theorem eqc23 : ∀ x : Sc23.inT, exec ctab (ofL Ec22) 30 bodyc23 annc23 (finL ctab Sc23) (Sc23.inp.enc x) = Fc23 x := by
  rintro ⟨a0, a1⟩
  kernel_rfl
theorem callsc23 : CallsL Try.prog 23 Sc23 Fc23 := by
  refine fun_callsL (fn := Try.f23) (c := bodyc23) (ann := annc23) cc23 (by kernel_rfl) (by kernel_rfl) (by kernel_rfl) (by kernel_rfl) (by kernel_rfl) (annOk_of_cuts ?_) eqc23
  intro x hx
  exact absurd hx (by show x ∉ ([] : List (List Nat × LEnt)); simp)

theorem entc23 : EntOk Try.prog 23 (funEntL Sc23 true Fc23) := fun_okL (fn := Try.f23) (c := bodyc23) (by kernel_rfl) (by kernel_rfl) (by kernel_rfl) (by kernel_rfl) callsc23
noncomputable def Ec23 : List (Nat × Ent) := (23, (funEntL Sc23 true Fc23)) :: Ec22
theorem Ec23_ok : EntsOk Try.prog (ofL Ec23) := .cons entc23 Ec22_ok

/-! ### barbican/barbicanref12.length -/
noncomputable def bodyc90 : Code := (Try.f90.body).getD .skip
abbrev Sc90 : FL := ⟨⟨[], [.env 0 (.c (.fz (.int .u8))), .env 1 (.c (.int .i64)), .env 2 (.c (.int .i64))], []⟩, 3, [(.ret, ⟨[], [.env 0 (.c (.int .i64)), .env 1 (.c (.int .i64)), .env 2 (.c (.int .i64))], []⟩)], [.tmp 6, .tmp 7, .tmp 8], false⟩
noncomputable def cc90 : Ctx Try.prog := ⟨ctab, ofL Ec23, ctabOk, Ec23_ok, cdep, cord⟩
abbrev lc90_0 : Lay := ⟨[], [.env 0 (.c (.fz (.int .u8))), .env 1 (.c (.int .i64)), .env 10 (.c (.int .i64)), .env 11 (.c (.int .i64)), .env 12 (.c (.int .i64))], []⟩
abbrev oc90_0 : List (AExit × Lay) := [(.exit 0, ⟨[], [.env 0 (.c (.fz (.int .u8))), .env 1 (.c (.int .i64)), .env 10 (.c (.int .i64)), .env 11 (.c (.int .i64))], []⟩)]
noncomputable def stepc90_0 : (List Int) × Int × Int × Int × Int → Option (((List Int) × Int × Int × Int × Int) ⊕ (((List Int) × Int × Int × Int)))
  | (t0, t1, t10, t11, t12) =>
  if (decide (t12 ≤ t10)) = true then
   if (0 : Int) ≤ (IntKind.i64.wrap (t1 + t12)) ∧ (IntKind.i64.wrap (t1 + t12)) < (t0.length : Int) then
    let x3 : Int := (IntKind.i64.wrap (t0.getD (IntKind.i64.wrap (t1 + t12)).toNat 0))
    some (.inl (t0, t1, t10, (IntKind.i64.wrap ((IntKind.i64.wrap (256 * t11)) + x3)), (IntKind.i64.wrap (t12 + 1))))
   else none
  else
   some (.inr (t0, t1, t10, t11))

noncomputable def annc90_0 : Ann := .none
noncomputable def Fc90 : (List Int) × Int × Int → Option ((Int × Int × Int))
  | (a0, a1, a2) =>
  if (decide (a1 ≥ a2)) = true then
   some (0, 0, 122)
  else
   if (0 : Int) ≤ a1 ∧ a1 < (a0.length : Int) then
    if (decide ((IntKind.i64.wrap (a0.getD a1.toNat 0)) < 128)) = true then
     some ((IntKind.i64.wrap (a0.getD a1.toNat 0)), (IntKind.i64.wrap (a1 + 1)), 0)
    else
     let x1 : Int := (IntKind.i64.wrap ((IntKind.i64.wrap (a0.getD a1.toNat 0)) - 128))
     if (x1 == 0) = false then
      if (decide (x1 > 3)) = true then
       some (0, 0, 124)
      else
       let x2 : Bool := (decide ((IntKind.i64.wrap ((IntKind.i64.wrap (a2 - a1)) - 1)) < x1))
       if x2 = true then
        some (0, 0, 122)
       else
        (loopO stepc90_0 (a0, a1, x1, 0, 1)).bind fun (z4, z5, z6, z7) =>
         if (0 : Int) ≤ (IntKind.i64.wrap (z5 + 1)) ∧ (IntKind.i64.wrap (z5 + 1)) < (z4.length : Int) then
          if ((z4.getD (IntKind.i64.wrap (z5 + 1)).toNat 0) == 0) = false then
           if (decide (z7 < 128)) = true then
            some (0, 0, 124)
           else
            some (z7, (IntKind.i64.wrap ((IntKind.i64.wrap (z5 + 1)) + z6)), 0)
          else
           some (0, 0, 124)
         else none
     else
      some (0, 0, 124)
   else none

noncomputable def annc90 : Ann := (.seq .none (.seq .none (.seq .none (.seq .none (.seq .none (.seq .none (.seq .none (.seq .none (.seq (.seq .none (.seq (.cut (cutEnt lc90_0 oc90_0 (loopO (stepc90_0)))) .none)) .none)))))))))
theorem eqc90_0 : ∀ s : lc90_0.T, exec ctab (ofL Ec23) 70 (Code.at' [1, 1, 1, 1, 1, 1, 1, 1, 0, 1, 0, 0] bodyc90) annc90_0 (fun e st => loopEnd (l := lc90_0) (outs := oc90_0) e st) (lc90_0.enc s) = stepc90_0 s := by
  rintro ⟨t0, t1, t10, t11, t12⟩
  kernel_rfl
theorem okc90_0 : LOk Try.prog 70 (cutEnt lc90_0 oc90_0 (loopO stepc90_0)) (Code.at' [1, 1, 1, 1, 1, 1, 1, 1, 0, 1, 0] bodyc90) := by
  have e : Code.at' [1, 1, 1, 1, 1, 1, 1, 1, 0, 1, 0] bodyc90 = .loop (Code.at' [1, 1, 1, 1, 1, 1, 1, 1, 0, 1, 0, 0] bodyc90) := by kernel_rfl
  rw [e]
  refine loop_ok cc90 70 rfl rfl (annOk_of_cuts ?_) eqc90_0
  intro x hx
  exact absurd hx (by show x ∉ ([] : List (List Nat × LEnt)); simp)

theorem eqc90 : ∀ x : Sc90.inT, exec ctab (ofL Ec23) 70 bodyc90 annc90 (finL ctab Sc90) (Sc90.inp.enc x) = Fc90 x := by
  rintro ⟨a0, a1, a2⟩
  kernel_rfl
theorem callsc90 : CallsL Try.prog 90 Sc90 Fc90 := by
  refine fun_callsL (fn := Try.f90) (c := bodyc90) (ann := annc90) cc90 (by kernel_rfl) (by kernel_rfl) (by kernel_rfl) (by kernel_rfl) (by kernel_rfl) (annOk_of_cuts ?_) eqc90
  have hc : Ann.cuts annc90 = [([1, 1, 1, 1, 1, 1, 1, 1, 0, 1, 0], (cutEnt lc90_0 oc90_0 (loopO (stepc90_0))))] := by kernel_rfl
  rw [hc]
  intro x hx
  simp only [List.mem_cons, List.not_mem_nil, or_false] at hx
  rcases hx with rfl
  · have e : Code.at' [1, 1, 1, 1, 1, 1, 1, 1, 0, 1, 0] bodyc90 = Code.at' [1, 1, 1, 1, 1, 1, 1, 1, 0, 1, 0] bodyc90 := by kernel_rfl
    rw [e]; exact okc90_0

theorem entc90 : EntOk Try.prog 90 (funEntL Sc90 true Fc90) := fun_okL (fn := Try.f90) (c := bodyc90) (by kernel_rfl) (by kernel_rfl) (by kernel_rfl) (by kernel_rfl) callsc90
noncomputable def Ec90 : List (Nat × Ent) := (90, (funEntL Sc90 true Fc90)) :: Ec23
theorem Ec90_ok : EntsOk Try.prog (ofL Ec90) := .cons entc90 Ec23_ok

/-! ### barbican/barbicanref12.read -/
noncomputable def bodyc55 : Code := (Try.f55.body).getD .skip
abbrev Sc55 : FL := ⟨⟨[], [.env 0 (.c (.fz (.int .u8))), .env 1 (.c (.int .i64)), .env 2 (.c (.int .i64)), .env 3 (.c (.int .i64))], []⟩, 4, [(.ret, ⟨[], [.env 0 (.dat .item), .env 1 (.c (.int .i64)), .env 2 (.c (.int .i64))], []⟩)], [.cell 8 58, .tmp 9, .tmp 10], true⟩
noncomputable def cc55 (G : Sc55.inT → Option Sc55.outT) (hG : CallsL Try.prog 55 Sc55 G) : Ctx Try.prog := ⟨ctab, ofL ((55, funEntL Sc55 true G) :: Ec90), ctabOk, .cons (fun_okL (fn := Try.f55) (c := bodyc55) (by kernel_rfl) (by kernel_rfl) (by kernel_rfl) (by kernel_rfl) hG) Ec90_ok, cdep, cord⟩
abbrev lc55_0 : Lay := ⟨[(8, .ptr 8 0 3), (11, .ptr 11 0 3)], [.env 0 (.c (.fz (.int .u8))), .env 1 (.c (.int .i64)), .env 3 (.c (.int .i64)), .env 13 (.c (.int .i64)), .env 14 (.c (.int .i64)), .reg 8 (.cells [.int .u8, .nils, .nils]), .reg 11 (.cells [.int .u8, .nils, .full 600706]), .reg 600706 (.rowd 58 .item)], [(8, .env 8 0), (11, .env 11 0), (600706, .reg 11 2)]⟩
abbrev oc55_0 : List (AExit × Lay) := [(.ret, ⟨[(8, .ptr 8 0 3)], [.env 9 (.c (.int .i64)), .env 10 (.c (.int .i64)), .reg 8 (.cells [.int .u8, .nils, .nils])], [(8, .env 8 0)]⟩), (.exit 0, ⟨[(8, .ptr 8 0 3), (11, .ptr 11 0 3)], [.env 1 (.c (.int .i64)), .reg 8 (.cells [.int .u8, .nils, .nils]), .reg 11 (.cells [.int .u8, .nils, .full 600706]), .reg 600706 (.rowd 58 .item)], [(8, .env 8 0), (11, .env 11 0), (600706, .reg 11 2)]⟩)]
noncomputable def stepc55_0 (G : (List Int) × Int × Int × Int → Option ((Tree × Int × Int))) : (List Int) × Int × Int × Int × Int × (Int × Unit × Unit) × (Int × Unit × Unit) × List Tree → Option (((List Int) × Int × Int × Int × Int × (Int × Unit × Unit) × (Int × Unit × Unit) × List Tree) ⊕ ((Int × Int × (Int × Unit × Unit)) ⊕ (Int × (Int × Unit × Unit) × (Int × Unit × Unit) × List Tree)))
  | (t0, t1, t3, t13, t14, r8, r11, r600706) =>
  if (decide (t1 < (IntKind.i64.wrap (t14 + t13)))) = true then
   (G (t0, t1, (IntKind.i64.wrap (t14 + t13)), (IntKind.i64.wrap (t3 + 1)))).bind fun (y7, y8, y9) =>
    if (y9 != 0) = true then
     some (.inr (.inl (0, y9, (0, (), ()))))
    else
     if okBytes (r600706.length + ([(Tree.node y7.tag y7.body y7.kids)] : List Tree).length) 56 then
      let f10 : List Tree := (r600706 ++ ([(Tree.node y7.tag y7.body y7.kids)] : List Tree))
      some (.inl (t0, y8, t3, t13, t14, (r8.1, (), ()), (r11.1, (), ()), f10))
     else none
  else
   some (.inr (.inr (t1, (r8.1, (), ()), (r11.1, (), ()), r600706)))

noncomputable def annc55_0 (G : (List Int) × Int × Int × Int → Option ((Tree × Int × Int))) : Ann := .none
noncomputable def Bc55 (G : (List Int) × Int × Int × Int → Option ((Tree × Int × Int))) : (List Int) × Int × Int × Int → Option ((Tree × Int × Int))
  | (a0, a1, a2, a3) =>
  if (decide (a3 > 16)) = true then
   some ((Tree.node 0 ([] : List Int) ([] : List Tree)), 0, 125)
  else
   if (decide (a1 ≥ a2)) = true then
    some ((Tree.node 0 ([] : List Int) ([] : List Tree)), 0, 122)
   else
    if (0 : Int) ≤ a1 ∧ a1 < (a0.length : Int) then
     (Fc89 (a0.getD a1.toNat 0)).bind fun y1 =>
      if y1 = true then
       some ((Tree.node 0 ([] : List Int) ([] : List Tree)), 0, 123)
      else
       (Fc90 (a0, (IntKind.i64.wrap (a1 + 1)), a2)).bind fun (y2, y3, y4) =>
        if (y4 != 0) = true then
         some ((Tree.node 0 ([] : List Int) ([] : List Tree)), 0, y4)
        else
         if (decide (y2 > (IntKind.i64.wrap (a2 - y3)))) = true then
          some ((Tree.node 0 ([] : List Int) ([] : List Tree)), 0, 122)
         else
          (Fc91 (a0.getD a1.toNat 0)).bind fun y5 =>
           if (!y5) = true then
            if (0 : Int) ≤ y3 ∧ y3 ≤ (IntKind.i64.wrap (y3 + y2)) ∧ (IntKind.i64.wrap (y3 + y2)) ≤ (a0.length : Int) then
             if okBytes ((List.replicate 0 (0 : Int)).length + ((a0.drop y3.toNat).take ((IntKind.i64.wrap (y3 + y2)).toNat - y3.toNat)).length) 1 then
              let f6 : List Int := ((List.replicate 0 (0 : Int)) ++ ((a0.drop y3.toNat).take ((IntKind.i64.wrap (y3 + y2)).toNat - y3.toNat)))
              some ((Tree.node (a0.getD a1.toNat 0) f6 ([] : List Tree)), (IntKind.i64.wrap (y3 + y2)), 0)
             else none
            else none
           else
            (loopO (stepc55_0 G) (a0, y3, a3, y2, y3, (0, (), ()), ((a0.getD a1.toNat 0), (), ()), ([] : List Tree))).bind fun
             | (.inl (z11, z12, z13)) =>
              some ((Tree.node z13.1 ([] : List Int) ([] : List Tree)), z11, z12)
             | (.inr (z14, z15, z16, z17)) =>
              some ((Tree.node z16.1 ([] : List Int) z17), z14, 0)
    else none

noncomputable def annc55 (G : (List Int) × Int × Int × Int → Option ((Tree × Int × Int))) : Ann := (.seq .none (.seq .none (.seq .none (.seq .none (.seq .none (.seq .none (.seq .none (.seq .none (.seq .none (.seq .none (.seq .none (.seq .none (.seq (.seq (.cut (cutEnt lc55_0 oc55_0 (loopO (stepc55_0 G)))) .none) .none)))))))))))))
theorem eqc55_0 (G : Sc55.inT → Option Sc55.outT) (hG : CallsL Try.prog 55 Sc55 G) : ∀ s : lc55_0.T, exec ctab (ofL ((55, funEntL Sc55 true G) :: Ec90)) 105 (Code.at' [1, 1, 1, 1, 1, 1, 1, 1, 1, 1, 1, 1, 0, 0, 0] bodyc55) (annc55_0 G) (fun e st => loopEnd (l := lc55_0) (outs := oc55_0) e st) (lc55_0.enc s) = stepc55_0 G s := by
  rintro ⟨t0, t1, t3, t13, t14, r8, r11, r600706⟩
  kernel_rfl
theorem okc55_0 (G : Sc55.inT → Option Sc55.outT) (hG : CallsL Try.prog 55 Sc55 G) : LOk Try.prog 105 (cutEnt lc55_0 oc55_0 (loopO (stepc55_0 G))) (Code.at' [1, 1, 1, 1, 1, 1, 1, 1, 1, 1, 1, 1, 0, 0] bodyc55) := by
  have e : Code.at' [1, 1, 1, 1, 1, 1, 1, 1, 1, 1, 1, 1, 0, 0] bodyc55 = .loop (Code.at' [1, 1, 1, 1, 1, 1, 1, 1, 1, 1, 1, 1, 0, 0, 0] bodyc55) := by kernel_rfl
  rw [e]
  refine loop_ok (cc55 G hG) 105 rfl rfl (annOk_of_cuts ?_) (eqc55_0 G hG)
  intro x hx
  exact absurd hx (by show x ∉ ([] : List (List Nat × LEnt)); simp)

theorem eqc55 (G : Sc55.inT → Option Sc55.outT) (hG : CallsL Try.prog 55 Sc55 G) : ∀ x : Sc55.inT, exec ctab (ofL ((55, funEntL Sc55 true G) :: Ec90)) 105 bodyc55 (annc55 G) (finL ctab Sc55) (Sc55.inp.enc x) = Bc55 G x := by
  rintro ⟨a0, a1, a2, a3⟩
  kernel_rfl
theorem bcallsc55 (G : Sc55.inT → Option Sc55.outT) (hG : CallsL Try.prog 55 Sc55 G) : CallsL Try.prog 55 Sc55 (Bc55 G) := by
  refine fun_callsL (fn := Try.f55) (c := bodyc55) (ann := (annc55 G)) (cc55 G hG) (by kernel_rfl) (by kernel_rfl) (by kernel_rfl) (by kernel_rfl) (by kernel_rfl) (annOk_of_cuts ?_) (eqc55 G hG)
  have hc : Ann.cuts (annc55 G) = [([1, 1, 1, 1, 1, 1, 1, 1, 1, 1, 1, 1, 0, 0], (cutEnt lc55_0 oc55_0 (loopO (stepc55_0 G))))] := by kernel_rfl
  rw [hc]
  intro x hx
  simp only [List.mem_cons, List.not_mem_nil, or_false] at hx
  rcases hx with rfl
  · have e : Code.at' [1, 1, 1, 1, 1, 1, 1, 1, 1, 1, 1, 1, 0, 0] bodyc55 = Code.at' [1, 1, 1, 1, 1, 1, 1, 1, 1, 1, 1, 1, 0, 0] bodyc55 := by kernel_rfl
    rw [e]; exact okc55_0 G hG

noncomputable def FRc55 : Nat → (List Int) × Int × Int × Int → Option ((Tree × Int × Int))
  | 0 => fun _ => none
  | k + 1 => Bc55 (FRc55 k)
theorem rcallsc55 : ∀ k, CallsL Try.prog 55 Sc55 (FRc55 k)
  | 0 => fun _ _ _ _ _ _ _ _ h => by cases h
  | k + 1 => bcallsc55 (FRc55 k) (rcallsc55 k)
noncomputable def Fc55 (x : (List Int) × Int × Int × Int) : Option ((Tree × Int × Int)) := FRc55 (20) x
theorem callsc55 : CallsL Try.prog 55 Sc55 Fc55 := fun us x y w fp β h1 h2 h3 h4 => rcallsc55 _ us x y w fp β h1 h2 h3 h4
theorem entc55 : EntOk Try.prog 55 (funEntL Sc55 true Fc55) := fun_okL (fn := Try.f55) (c := bodyc55) (by kernel_rfl) (by kernel_rfl) (by kernel_rfl) (by kernel_rfl) callsc55
noncomputable def Ec55 : List (Nat × Ent) := (55, (funEntL Sc55 true Fc55)) :: Ec90
theorem Ec55_ok : EntsOk Try.prog (ofL Ec55) := .cons entc55 Ec90_ok

/-! ### barbican/barbicanref12.Decode -/
noncomputable def bodyc27 : Code := (Try.f27.body).getD .skip
abbrev Sc27 : FL := ⟨⟨[], [.env 0 (.c (.fz (.int .u8)))], []⟩, 1, [(.ret, ⟨[], [.env 0 (.dat .item), .env 1 (.c (.int .i64))], []⟩)], [.cell 2 58, .tmp 3], true⟩
noncomputable def cc27 : Ctx Try.prog := ⟨ctab, ofL Ec55, ctabOk, Ec55_ok, cdep, cord⟩
noncomputable def Fc27 : (List Int) → Option ((Tree × Int))
  | a0 =>
  if (decide ((a0.length : Int) > 65536)) = true then
   some ((Tree.node 0 ([] : List Int) ([] : List Tree)), 121)
  else
   (Fc55 (a0, 0, (a0.length : Int), 1)).bind fun (y1, y2, y3) =>
    if (y3 != 0) = true then
     some ((Tree.node 0 ([] : List Int) ([] : List Tree)), y3)
    else
     if (decide (y2 < (a0.length : Int))) = true then
      some ((Tree.node 0 ([] : List Int) ([] : List Tree)), 126)
     else
      some ((Tree.node y1.tag y1.body y1.kids), 0)

noncomputable def annc27 : Ann := .none
theorem eqc27 : ∀ x : Sc27.inT, exec ctab (ofL Ec55) 29 bodyc27 annc27 (finL ctab Sc27) (Sc27.inp.enc x) = Fc27 x := by
  intro x
  kernel_rfl
theorem callsc27 : CallsL Try.prog 27 Sc27 Fc27 := by
  refine fun_callsL (fn := Try.f27) (c := bodyc27) (ann := annc27) cc27 (by kernel_rfl) (by kernel_rfl) (by kernel_rfl) (by kernel_rfl) (by kernel_rfl) (annOk_of_cuts ?_) eqc27
  intro x hx
  exact absurd hx (by show x ∉ ([] : List (List Nat × LEnt)); simp)

theorem entc27 : EntOk Try.prog 27 (funEntL Sc27 true Fc27) := fun_okL (fn := Try.f27) (c := bodyc27) (by kernel_rfl) (by kernel_rfl) (by kernel_rfl) (by kernel_rfl) callsc27
noncomputable def Ec27 : List (Nat × Ent) := (27, (funEntL Sc27 true Fc27)) :: Ec55
theorem Ec27_ok : EntsOk Try.prog (ofL Ec27) := .cons entc27 Ec55_ok

/-! ### barbican/barbicanref13.item -/
noncomputable def bodyc54 : Code := (Try.f54.body).getD .skip
abbrev Sc54 : FL := ⟨⟨[], [.env 0 (.agg [.int .u64, .str, .str, .fz (.int .u8), .fz (.pair (.int .i64) (.pair .bool (.sl (.int .u8)))), .fz (.int .u8)]), .env 1 (.c (.int .i64))], []⟩, 2, [(.ret, ⟨[], [.env 0 (.dat .item), .env 1 (.c (.int .i64))], []⟩)], [.cell 4 58, .tmp 5], true⟩
noncomputable def cc54 : Ctx Try.prog := ⟨ctab, ofL Ec27, ctabOk, Ec27_ok, cdep, cord⟩
noncomputable def Fc54 : (Int × ByteArray × ByteArray × (List Int) × (List (Int × (Bool × (List Int)))) × (List Int)) × Int → Option ((Tree × Int))
  | (a0, a1) =>
  (Fc20 ((a0.1, a0.2.1, a0.2.2.1, a0.2.2.2.1, a0.2.2.2.2.1, a0.2.2.2.2.2), a1)).bind fun (y1, y2) =>
   if (!y2) = true then
    some ((Tree.node 0 ([] : List Int) ([] : List Tree)), 131)
   else
    (Fc27 y1.2.2).bind fun (y3, y4) =>
     if (y4 != 0) = true then
      some ((Tree.node 0 ([] : List Int) ([] : List Tree)), 134)
     else
      some ((Tree.node y3.tag y3.body y3.kids), 0)

noncomputable def annc54 : Ann := .none
theorem eqc54 : ∀ x : Sc54.inT, exec ctab (ofL Ec27) 29 bodyc54 annc54 (finL ctab Sc54) (Sc54.inp.enc x) = Fc54 x := by
  rintro ⟨a0, a1⟩
  kernel_rfl
theorem callsc54 : CallsL Try.prog 54 Sc54 Fc54 := by
  refine fun_callsL (fn := Try.f54) (c := bodyc54) (ann := annc54) cc54 (by kernel_rfl) (by kernel_rfl) (by kernel_rfl) (by kernel_rfl) (by kernel_rfl) (annOk_of_cuts ?_) eqc54
  intro x hx
  exact absurd hx (by show x ∉ ([] : List (List Nat × LEnt)); simp)

theorem entc54 : EntOk Try.prog 54 (funEntL Sc54 true Fc54) := fun_okL (fn := Try.f54) (c := bodyc54) (by kernel_rfl) (by kernel_rfl) (by kernel_rfl) (by kernel_rfl) callsc54
noncomputable def Ec54 : List (Nat × Ent) := (54, (funEntL Sc54 true Fc54)) :: Ec27
theorem Ec54_ok : EntsOk Try.prog (ofL Ec54) := .cons entc54 Ec27_ok

/-! ### barbican/barbicanref12.Uint -/
noncomputable def bodyc30 : Code := (Try.f30.body).getD .skip
abbrev Sc30 : FL := ⟨⟨[], [.env 0 (.dat .item)], []⟩, 1, [(.ret, ⟨[], [.env 0 (.c (.int .u64)), .env 1 (.c (.int .i64))], []⟩)], [.tmp 2, .tmp 3], false⟩
noncomputable def cc30 : Ctx Try.prog := ⟨ctab, ofL Ec54, ctabOk, Ec54_ok, cdep, cord⟩
abbrev lc30_0 : Lay := ⟨[], [.env 4 (.c (.fz (.int .u8))), .env 5 (.c (.int .u64)), .env 6 (.c (.int .i64))], []⟩
abbrev oc30_0 : List (AExit × Lay) := [(.exit 0, ⟨[], [.env 5 (.c (.int .u64))], []⟩)]
noncomputable def stepc30_0 : (List Int) × Int × Int → Option (((List Int) × Int × Int) ⊕ ((Int)))
  | (t4, t5, t6) =>
  if (decide (t6 < (t4.length : Int))) = true then
   if (0 : Int) ≤ t6 ∧ t6 < (t4.length : Int) then
    let x1 : Int := (IntKind.u64.wrap ((IntKind.u64.wrap (256 * t5)) + (IntKind.u64.wrap (t4.getD t6.toNat 0))))
    some (.inl (t4, x1, (IntKind.i64.wrap (t6 + 1))))
   else none
  else
   some (.inr t5)

noncomputable def annc30_0 : Ann := .none
noncomputable def Fc30 : Tree → Option ((Int × Int))
  | a0 =>
  if (a0.tag != 2) = true then
   some (0, 123)
  else
   if ((a0.body.length : Int) == 0) = false then
    if (decide ((a0.kids.length : Int) > 0)) = false then
     if (0 : Int) ≤ (0 : Int) ∧ (0 : Int) < (a0.body.length : Int) then
      if (decide ((a0.body.getD 0 0) ≥ 128)) = false then
       if (decide ((a0.body.length : Int) > 1)) = true then
        if (0 : Int) ≤ (0 : Int) ∧ (0 : Int) < (a0.body.length : Int) then
         if ((a0.body.getD 0 0) == 0) = true then
          if (0 : Int) ≤ (1 : Int) ∧ (1 : Int) < (a0.body.length : Int) then
           if (decide ((a0.body.getD 1 0) < 128)) = true then
            some (0, 127)
           else
            if (0 : Int) ≤ (0 : Int) ∧ (0 : Int) < (a0.body.length : Int) then
             if ((a0.body.getD 0 0) == 0) = true then
              if (0 : Int) ≤ (1 : Int) ∧ (1 : Int) ≤ (a0.body.length : Int) then
               if (decide (((a0.body.drop 1).length : Int) > 8)) = true then
                some (0, 127)
               else
                (loopO stepc30_0 ((a0.body.drop 1), 0, 0)).bind fun z2 =>
                 some (z2, 0)
              else none
             else
              if (decide ((a0.body.length : Int) > 8)) = true then
               some (0, 127)
              else
               (loopO stepc30_0 (a0.body, 0, 0)).bind fun z3 =>
                some (z3, 0)
            else none
          else none
         else
          if (0 : Int) ≤ (0 : Int) ∧ (0 : Int) < (a0.body.length : Int) then
           if ((a0.body.getD 0 0) == 0) = true then
            if (0 : Int) ≤ (1 : Int) ∧ (1 : Int) ≤ (a0.body.length : Int) then
             if (decide (((a0.body.drop 1).length : Int) > 8)) = true then
              some (0, 127)
             else
              (loopO stepc30_0 ((a0.body.drop 1), 0, 0)).bind fun z4 =>
               some (z4, 0)
            else none
           else
            if (decide ((a0.body.length : Int) > 8)) = true then
             some (0, 127)
            else
             (loopO stepc30_0 (a0.body, 0, 0)).bind fun z5 =>
              some (z5, 0)
          else none
        else none
       else
        if (0 : Int) ≤ (0 : Int) ∧ (0 : Int) < (a0.body.length : Int) then
         if ((a0.body.getD 0 0) == 0) = true then
          if (0 : Int) ≤ (1 : Int) ∧ (1 : Int) ≤ (a0.body.length : Int) then
           if (decide (((a0.body.drop 1).length : Int) > 8)) = true then
            some (0, 127)
           else
            (loopO stepc30_0 ((a0.body.drop 1), 0, 0)).bind fun z6 =>
             some (z6, 0)
          else none
         else
          if (decide ((a0.body.length : Int) > 8)) = true then
           some (0, 127)
          else
           (loopO stepc30_0 (a0.body, 0, 0)).bind fun z7 =>
            some (z7, 0)
        else none
      else
       some (0, 127)
     else none
    else
     some (0, 127)
   else
    some (0, 127)

noncomputable def annc30 : Ann := (.seq .none (.seq .none (.seq .none (.seq .none (.seq .none (.seq .none (.seq .none (.seq (.seq .none (.seq (.cut (cutEnt lc30_0 oc30_0 (loopO (stepc30_0)))) .none)) .none))))))))
theorem eqc30_0 : ∀ s : lc30_0.T, exec ctab (ofL Ec54) 68 (Code.at' [1, 1, 1, 1, 1, 1, 1, 0, 1, 0, 0] bodyc30) annc30_0 (fun e st => loopEnd (l := lc30_0) (outs := oc30_0) e st) (lc30_0.enc s) = stepc30_0 s := by
  rintro ⟨t4, t5, t6⟩
  kernel_rfl
theorem okc30_0 : LOk Try.prog 68 (cutEnt lc30_0 oc30_0 (loopO stepc30_0)) (Code.at' [1, 1, 1, 1, 1, 1, 1, 0, 1, 0] bodyc30) := by
  have e : Code.at' [1, 1, 1, 1, 1, 1, 1, 0, 1, 0] bodyc30 = .loop (Code.at' [1, 1, 1, 1, 1, 1, 1, 0, 1, 0, 0] bodyc30) := by kernel_rfl
  rw [e]
  refine loop_ok cc30 68 rfl rfl (annOk_of_cuts ?_) eqc30_0
  intro x hx
  exact absurd hx (by show x ∉ ([] : List (List Nat × LEnt)); simp)

theorem eqc30 : ∀ x : Sc30.inT, exec ctab (ofL Ec54) 68 bodyc30 annc30 (finL ctab Sc30) (Sc30.inp.enc x) = Fc30 x := by
  intro x
  kernel_rfl
theorem callsc30 : CallsL Try.prog 30 Sc30 Fc30 := by
  refine fun_callsL (fn := Try.f30) (c := bodyc30) (ann := annc30) cc30 (by kernel_rfl) (by kernel_rfl) (by kernel_rfl) (by kernel_rfl) (by kernel_rfl) (annOk_of_cuts ?_) eqc30
  have hc : Ann.cuts annc30 = [([1, 1, 1, 1, 1, 1, 1, 0, 1, 0], (cutEnt lc30_0 oc30_0 (loopO (stepc30_0))))] := by kernel_rfl
  rw [hc]
  intro x hx
  simp only [List.mem_cons, List.not_mem_nil, or_false] at hx
  rcases hx with rfl
  · have e : Code.at' [1, 1, 1, 1, 1, 1, 1, 0, 1, 0] bodyc30 = Code.at' [1, 1, 1, 1, 1, 1, 1, 0, 1, 0] bodyc30 := by kernel_rfl
    rw [e]; exact okc30_0

theorem entc30 : EntOk Try.prog 30 (funEntL Sc30 true Fc30) := fun_okL (fn := Try.f30) (c := bodyc30) (by kernel_rfl) (by kernel_rfl) (by kernel_rfl) (by kernel_rfl) callsc30
noncomputable def Ec30 : List (Nat × Ent) := (30, (funEntL Sc30 true Fc30)) :: Ec54
theorem Ec30_ok : EntsOk Try.prog (ofL Ec30) := .cons entc30 Ec54_ok

/-! ### barbican/barbicanref13.Counter -/
noncomputable def bodyc24 : Code := (Try.f24.body).getD .skip
abbrev Sc24 : FL := ⟨⟨[], [.env 0 (.agg [.int .u64, .str, .str, .fz (.int .u8), .fz (.pair (.int .i64) (.pair .bool (.sl (.int .u8)))), .fz (.int .u8)]), .env 1 (.c (.int .i64))], []⟩, 2, [(.ret, ⟨[], [.env 0 (.c (.int .u32)), .env 1 (.c (.int .i64))], []⟩)], [.tmp 4, .tmp 5], false⟩
noncomputable def cc24 : Ctx Try.prog := ⟨ctab, ofL Ec30, ctabOk, Ec30_ok, cdep, cord⟩
noncomputable def Fc24 : (Int × ByteArray × ByteArray × (List Int) × (List (Int × (Bool × (List Int)))) × (List Int)) × Int → Option ((Int × Int))
  | (a0, a1) =>
  (Fc54 ((a0.1, a0.2.1, a0.2.2.1, a0.2.2.2.1, a0.2.2.2.2.1, a0.2.2.2.2.2), a1)).bind fun (y1, y2) =>
   if (y2 != 0) = true then
    some (0, y2)
   else
    (Fc30 (Tree.node y1.tag y1.body y1.kids)).bind fun (y3, y4) =>
     if (y4 != 0) = false then
      if (decide (y3 > 4294967295)) = true then
       some (0, 134)
      else
       some ((IntKind.u32.wrap y3), 0)
     else
      some (0, 134)

noncomputable def annc24 : Ann := .none
theorem eqc24 : ∀ x : Sc24.inT, exec ctab (ofL Ec30) 32 bodyc24 annc24 (finL ctab Sc24) (Sc24.inp.enc x) = Fc24 x := by
  rintro ⟨a0, a1⟩
  kernel_rfl
theorem callsc24 : CallsL Try.prog 24 Sc24 Fc24 := by
  refine fun_callsL (fn := Try.f24) (c := bodyc24) (ann := annc24) cc24 (by kernel_rfl) (by kernel_rfl) (by kernel_rfl) (by kernel_rfl) (by kernel_rfl) (annOk_of_cuts ?_) eqc24
  intro x hx
  exact absurd hx (by show x ∉ ([] : List (List Nat × LEnt)); simp)

theorem entc24 : EntOk Try.prog 24 (funEntL Sc24 true Fc24) := fun_okL (fn := Try.f24) (c := bodyc24) (by kernel_rfl) (by kernel_rfl) (by kernel_rfl) (by kernel_rfl) callsc24
noncomputable def Ec24 : List (Nat × Ent) := (24, (funEntL Sc24 true Fc24)) :: Ec30
theorem Ec24_ok : EntsOk Try.prog (ofL Ec24) := .cons entc24 Ec30_ok

/-! ### barbican/barbicanref13.Hash -/
noncomputable def bodyc25 : Code := (Try.f25.body).getD .skip
abbrev Sc25 : FL := ⟨⟨[], [.env 0 (.agg [.int .u64, .str, .str, .fz (.int .u8), .fz (.pair (.int .i64) (.pair .bool (.sl (.int .u8)))), .fz (.int .u8)]), .env 1 (.c (.int .i64))], []⟩, 2, [(.ret, ⟨[], [.env 0 (.agg [.ints .u8 32]), .env 1 (.c (.int .i64))], []⟩)], [.cell 4 51, .tmp 5], false⟩
noncomputable def cc25 : Ctx Try.prog := ⟨ctab, ofL Ec24, ctabOk, Ec24_ok, cdep, cord⟩
noncomputable def Fc25 : (Int × ByteArray × ByteArray × (List Int) × (List (Int × (Bool × (List Int)))) × (List Int)) × Int → Option (((Nat → Int) × Int))
  | (a0, a1) =>
  (Fc54 ((a0.1, a0.2.1, a0.2.2.1, a0.2.2.2.1, a0.2.2.2.2.1, a0.2.2.2.2.2), a1)).bind fun (y1, y2) =>
   if (y2 != 0) = true then
    some ((fun _ => 0), y2)
   else
    if (y1.tag != 4) = false then
     if ((y1.body.length : Int) != 32) = true then
      some ((fun _ => 0), 134)
     else
      if (32 : Int) ≤ (y1.body.length : Int) then
       some ((fun j => List.getD (α := Int) y1.body j 0), 0)
      else none
    else
     some ((fun _ => 0), 134)

noncomputable def annc25 : Ann := .none
theorem eqc25 : ∀ x : Sc25.inT, exec ctab (ofL Ec24) 32 bodyc25 annc25 (finL ctab Sc25) (Sc25.inp.enc x) = Fc25 x := by
  rintro ⟨a0, a1⟩
  kernel_rfl
theorem callsc25 : CallsL Try.prog 25 Sc25 Fc25 := by
  refine fun_callsL (fn := Try.f25) (c := bodyc25) (ann := annc25) cc25 (by kernel_rfl) (by kernel_rfl) (by kernel_rfl) (by kernel_rfl) (by kernel_rfl) (annOk_of_cuts ?_) eqc25
  intro x hx
  exact absurd hx (by show x ∉ ([] : List (List Nat × LEnt)); simp)

theorem entc25 : EntOk Try.prog 25 (funEntL Sc25 true Fc25) := fun_okL (fn := Try.f25) (c := bodyc25) (by kernel_rfl) (by kernel_rfl) (by kernel_rfl) (by kernel_rfl) callsc25
noncomputable def Ec25 : List (Nat × Ent) := (25, (funEntL Sc25 true Fc25)) :: Ec24
theorem Ec25_ok : EntsOk Try.prog (ofL Ec25) := .cons entc25 Ec24_ok

/-! ### barbican/barbicanref12.Bits -/
noncomputable def bodyc31 : Code := (Try.f31.body).getD .skip
abbrev Sc31 : FL := ⟨⟨[], [.env 0 (.dat .item)], []⟩, 1, [(.ret, ⟨[(0, .full 3)], [.reg 3 (.row 5 .u8), .env 1 (.c (.int .i64))], [(3, .env 0 0)]⟩)], [.tmp 2, .tmp 3], false⟩
noncomputable def cc31 : Ctx Try.prog := ⟨ctab, ofL Ec25, ctabOk, Ec25_ok, cdep, cord⟩
noncomputable def Fc31 : Tree → Option ((List Int × Int))
  | a0 =>
  if (a0.tag != 3) = true then
   some (([] : List Int), 123)
  else
   if ((a0.body.length : Int) == 0) = false then
    if (0 : Int) ≤ (0 : Int) ∧ (0 : Int) < (a0.body.length : Int) then
     if ((a0.body.getD 0 0) != 0) = false then
      if (decide ((a0.kids.length : Int) > 0)) = true then
       some (([] : List Int), 127)
      else
       if (0 : Int) ≤ (1 : Int) ∧ (1 : Int) ≤ (a0.body.length : Int) then
        if okBytes ((List.replicate 0 (0 : Int)).length + (a0.body.drop 1).length) 1 then
         some (((List.replicate 0 (0 : Int)) ++ (a0.body.drop 1)), 0)
        else none
       else none
     else
      some (([] : List Int), 127)
    else none
   else
    some (([] : List Int), 127)

noncomputable def annc31 : Ann := .none
theorem eqc31 : ∀ x : Sc31.inT, exec ctab (ofL Ec25) 29 bodyc31 annc31 (finL ctab Sc31) (Sc31.inp.enc x) = Fc31 x := by
  intro x
  kernel_rfl
theorem callsc31 : CallsL Try.prog 31 Sc31 Fc31 := by
  refine fun_callsL (fn := Try.f31) (c := bodyc31) (ann := annc31) cc31 (by kernel_rfl) (by kernel_rfl) (by kernel_rfl) (by kernel_rfl) (by kernel_rfl) (annOk_of_cuts ?_) eqc31
  intro x hx
  exact absurd hx (by show x ∉ ([] : List (List Nat × LEnt)); simp)

theorem entc31 : EntOk Try.prog 31 (funEntL Sc31 true Fc31) := fun_okL (fn := Try.f31) (c := bodyc31) (by kernel_rfl) (by kernel_rfl) (by kernel_rfl) (by kernel_rfl) callsc31
noncomputable def Ec31 : List (Nat × Ent) := (31, (funEntL Sc31 true Fc31)) :: Ec25
theorem Ec31_ok : EntsOk Try.prog (ofL Ec31) := .cons entc31 Ec25_ok

/-! ### barbican/barbicanref13.Key -/
noncomputable def bodyc26 : Code := (Try.f26.body).getD .skip
abbrev Sc26 : FL := ⟨⟨[], [.env 0 (.agg [.int .u64, .str, .str, .fz (.int .u8), .fz (.pair (.int .i64) (.pair .bool (.sl (.int .u8)))), .fz (.int .u8)]), .env 1 (.c (.int .i64))], []⟩, 2, [(.ret, ⟨[(0, .full 1)], [.reg 1 (.row 5 .u8), .env 1 (.c (.int .i64))], [(1, .env 0 0)]⟩)], [.tmp 4, .tmp 5], false⟩
noncomputable def cc26 : Ctx Try.prog := ⟨ctab, ofL Ec31, ctabOk, Ec31_ok, cdep, cord⟩
noncomputable def Fc26 : (Int × ByteArray × ByteArray × (List Int) × (List (Int × (Bool × (List Int)))) × (List Int)) × Int → Option ((List Int × Int))
  | (a0, a1) =>
  (Fc54 ((a0.1, a0.2.1, a0.2.2.1, a0.2.2.2.1, a0.2.2.2.2.1, a0.2.2.2.2.2), a1)).bind fun (y1, y2) =>
   if (y2 != 0) = true then
    some (([] : List Int), y2)
   else
    (Fc31 (Tree.node y1.tag y1.body y1.kids)).bind fun (y3, y4) =>
     if (y4 != 0) = false then
      if ((y3.length : Int) != 2017) = true then
       some (([] : List Int), 134)
      else
       some (y3, 0)
     else
      some (([] : List Int), 134)

noncomputable def annc26 : Ann := .none
theorem eqc26 : ∀ x : Sc26.inT, exec ctab (ofL Ec31) 32 bodyc26 annc26 (finL ctab Sc26) (Sc26.inp.enc x) = Fc26 x := by
  rintro ⟨a0, a1⟩
  kernel_rfl
theorem callsc26 : CallsL Try.prog 26 Sc26 Fc26 := by
  refine fun_callsL (fn := Try.f26) (c := bodyc26) (ann := annc26) cc26 (by kernel_rfl) (by kernel_rfl) (by kernel_rfl) (by kernel_rfl) (by kernel_rfl) (annOk_of_cuts ?_) eqc26
  intro x hx
  exact absurd hx (by show x ∉ ([] : List (List Nat × LEnt)); simp)

theorem entc26 : EntOk Try.prog 26 (funEntL Sc26 true Fc26) := fun_okL (fn := Try.f26) (c := bodyc26) (by kernel_rfl) (by kernel_rfl) (by kernel_rfl) (by kernel_rfl) callsc26
noncomputable def Ec26 : List (Nat × Ent) := (26, (funEntL Sc26 true Fc26)) :: Ec31
theorem Ec26_ok : EntsOk Try.prog (ofL Ec26) := .cons entc26 Ec31_ok

/-! ### barbican/barbicanlaw13.CertFinds -/
noncomputable def bodyc6 : Code := (Try.f6.body).getD .skip
abbrev Sc6 : FL := ⟨⟨[], [.env 0 (.agg [.int .u64, .str, .str, .fz (.int .u8), .fz (.pair (.int .i64) (.pair .bool (.sl (.int .u8)))), .fz (.int .u8), .bool, .fz (.int .u8), .fz (.int .u8)]), .env 1 (.c (.int .i64))], []⟩, 2, [(.ret, ⟨[], [.env 0 (.c (.bool))], []⟩)], [.tmp 4], false⟩
noncomputable def cc6 : Ctx Try.prog := ⟨ctab, ofL Ec26, ctabOk, Ec26_ok, cdep, cord⟩
abbrev lc6_0 : Lay := ⟨[(5, .ptr 5 0 6), (6, .ptr 6 0 3)], [.env 1 (.c (.int .i64)), .env 10 (.c (.int .i64)), .reg 5 (.cells [.int .u64, .str, .str, .fz (.int .u8), .fz (.pair (.int .i64) (.pair .bool (.sl (.int .u8)))), .fz (.int .u8)]), .reg 6 (.cells [.int .i64, .bool, .full 1029]), .reg 1029 (.row 5 .u8)], [(5, .env 5 0), (6, .env 6 0), (1029, .reg 6 2)]⟩
abbrev oc6_0 : List (AExit × Lay) := [(.exit 0, ⟨[(5, .ptr 5 0 6)], [.env 1 (.c (.int .i64)), .reg 5 (.cells [.int .u64, .str, .str, .fz (.int .u8), .fz (.pair (.int .i64) (.pair .bool (.sl (.int .u8)))), .fz (.int .u8)])], [(5, .env 5 0)]⟩)]
noncomputable def stepc6_0 : Int × Int × (Int × ByteArray × ByteArray × (List Int) × (List (Int × (Bool × (List Int)))) × (List Int)) × (Int × Bool × Unit) × List Int → Option ((Int × Int × (Int × ByteArray × ByteArray × (List Int) × (List (Int × (Bool × (List Int)))) × (List Int)) × (Int × Bool × Unit) × List Int) ⊕ ((Int × (Int × ByteArray × ByteArray × (List Int) × (List (Int × (Bool × (List Int)))) × (List Int)))))
  | (t1, t10, r5, r6, r1029) =>
  if (decide (t10 < (r1029.length : Int))) = true then
   if (0 : Int) ≤ t10 ∧ t10 < (r1029.length : Int) then
    if (0 : Int) ≤ t10 ∧ t10 < (r1029.length : Int) then
     let f7 : List Int := (r1029.set t10.toNat (bitsXor .u8 (r1029.getD t10.toNat 0) 255))
     some (.inl (t1, (IntKind.i64.wrap (t10 + 1)), (r5.1, r5.2.1, r5.2.2.1, r5.2.2.2.1, r5.2.2.2.2.1, r5.2.2.2.2.2), (r6.1, r6.2.1, ()), f7))
    else none
   else none
  else
   some (.inr (t1, (r5.1, r5.2.1, r5.2.2.1, r5.2.2.2.1, r5.2.2.2.2.1, r5.2.2.2.2.2)))

noncomputable def annc6_0 : Ann := .none
noncomputable def Fc6 : (Int × ByteArray × ByteArray × (List Int) × (List (Int × (Bool × (List Int)))) × (List Int) × Bool × (List Int) × (List Int)) × Int → Option ((Bool))
  | (a0, a1) =>
  (Fc13 (a0.1, a0.2.1, a0.2.2.1, a0.2.2.2.1, a0.2.2.2.2.1, a0.2.2.2.2.2.1, a0.2.2.2.2.2.2.1, a0.2.2.2.2.2.2.2.1, a0.2.2.2.2.2.2.2.2)).bind fun y1 =>
   (Fc19 ((y1.1, y1.2.1, y1.2.2.1, y1.2.2.2.1, y1.2.2.2.2.1, y1.2.2.2.2.2), a1)).bind fun (y2, y3, y4) =>
    (Fc20 ((y1.1, y1.2.1, y1.2.2.1, y1.2.2.2.1, y1.2.2.2.2.1, y1.2.2.2.2.2), a1)).bind fun (y5, y6) =>
     if (!(y4 == y6)) = false then
      if (y2.1 != y5.1) = false then
       if (!(y2.2.1 == y5.2.1)) = false then
        if (!((ofBytes y3).toList == (ofBytes y5.2.2).toList)) = true then
         some false
        else
         (loopO stepc6_0 (a1, 0, (y1.1, y1.2.1, y1.2.2.1, y1.2.2.2.1, y1.2.2.2.2.1, y1.2.2.2.2.2), (y2.1, y2.2.1, ()), y3)).bind fun (z8, z9) =>
          (Fc21 ((z9.1, z9.2.1, z9.2.2.1, z9.2.2.2.1, z9.2.2.2.2.1, z9.2.2.2.2.2), z8)).bind fun (y10, y11) =>
           (Fc22 ((z9.1, z9.2.1, z9.2.2.1, z9.2.2.2.1, z9.2.2.2.2.1, z9.2.2.2.2.2), z8)).bind fun (y12, y13) =>
            (Fc23 ((z9.1, z9.2.1, z9.2.2.1, z9.2.2.2.1, z9.2.2.2.2.1, z9.2.2.2.2.2), z8)).bind fun (y14, y15) =>
             (Fc24 ((z9.1, z9.2.1, z9.2.2.1, z9.2.2.2.1, z9.2.2.2.2.1, z9.2.2.2.2.2), z8)).bind fun (y16, y17) =>
              (Fc25 ((z9.1, z9.2.1, z9.2.2.1, z9.2.2.2.1, z9.2.2.2.2.1, z9.2.2.2.2.2), z8)).bind fun (y18, y19) =>
               (Fc26 ((z9.1, z9.2.1, z9.2.2.1, z9.2.2.2.1, z9.2.2.2.2.1, z9.2.2.2.2.2), z8)).bind fun (y20, y21) =>
                (Fc10 (y14, y20)).bind fun y22 =>
                 (Fc12 ()).bind fun y23 =>
                  if y23 = true then
                   if (y10 == y16) = true then
                    if (y11 == y17) = true then
                     if (arrEq 32 y12 y18) = true then
                      if (y13 == y19) = true then
                       if y22 = true then
                        some (y15 == y21)
                       else
                        some false
                      else
                       some false
                     else
                      some false
                    else
                     some false
                   else
                    some false
                  else
                   some false
       else
        some false
      else
       some false
     else
      some false

noncomputable def annc6 : Ann := (.seq .none (.seq .none (.seq .none (.seq .none (.seq .none (.seq (.seq .none (.seq (.cut (cutEnt lc6_0 oc6_0 (loopO (stepc6_0)))) .none)) .none))))))
theorem eqc6_0 : ∀ s : lc6_0.T, exec ctab (ofL Ec26) 149 (Code.at' [1, 1, 1, 1, 1, 0, 1, 0, 0] bodyc6) annc6_0 (fun e st => loopEnd (l := lc6_0) (outs := oc6_0) e st) (lc6_0.enc s) = stepc6_0 s := by
  rintro ⟨t1, t10, r5, r6, r1029⟩
  kernel_rfl
theorem okc6_0 : LOk Try.prog 149 (cutEnt lc6_0 oc6_0 (loopO stepc6_0)) (Code.at' [1, 1, 1, 1, 1, 0, 1, 0] bodyc6) := by
  have e : Code.at' [1, 1, 1, 1, 1, 0, 1, 0] bodyc6 = .loop (Code.at' [1, 1, 1, 1, 1, 0, 1, 0, 0] bodyc6) := by kernel_rfl
  rw [e]
  refine loop_ok cc6 149 rfl rfl (annOk_of_cuts ?_) eqc6_0
  intro x hx
  exact absurd hx (by show x ∉ ([] : List (List Nat × LEnt)); simp)

theorem eqc6 : ∀ x : Sc6.inT, exec ctab (ofL Ec26) 149 bodyc6 annc6 (finL ctab Sc6) (Sc6.inp.enc x) = Fc6 x := by
  rintro ⟨a0, a1⟩
  kernel_rfl
theorem callsc6 : CallsL Try.prog 6 Sc6 Fc6 := by
  refine fun_callsL (fn := Try.f6) (c := bodyc6) (ann := annc6) cc6 (by kernel_rfl) (by kernel_rfl) (by kernel_rfl) (by kernel_rfl) (by kernel_rfl) (annOk_of_cuts ?_) eqc6
  have hc : Ann.cuts annc6 = [([1, 1, 1, 1, 1, 0, 1, 0], (cutEnt lc6_0 oc6_0 (loopO (stepc6_0))))] := by kernel_rfl
  rw [hc]
  intro x hx
  simp only [List.mem_cons, List.not_mem_nil, or_false] at hx
  rcases hx with rfl
  · have e : Code.at' [1, 1, 1, 1, 1, 0, 1, 0] bodyc6 = Code.at' [1, 1, 1, 1, 1, 0, 1, 0] bodyc6 := by kernel_rfl
    rw [e]; exact okc6_0

theorem entc6 : EntOk Try.prog 6 (funEntL Sc6 true Fc6) := fun_okL (fn := Try.f6) (c := bodyc6) (by kernel_rfl) (by kernel_rfl) (by kernel_rfl) (by kernel_rfl) callsc6
noncomputable def Ec6 : List (Nat × Ent) := (6, (funEntL Sc6 true Fc6)) :: Ec26
theorem Ec6_ok : EntsOk Try.prog (ofL Ec6) := .cons entc6 Ec26_ok
end Go.Abs
