/- What the functions of chapter 13 come to. -/
import Derived.Test.YtkkamfhppokooaaRTxt1R
import Derived.Test.YtkkamfhppokooaaRAbs3R
import Derived.Test.YtkkamfhppokooaaChecked
import Derived.KernelRfl
set_option linter.unusedVariables false
set_option linter.unusedSimpArgs false
set_option maxRecDepth 100000
open Go.Proofs
namespace Go.Abs
abbrev Sc101 : FL := ⟨⟨[], [.env 0 (.c (.fz (.int .u64))), .env 1 (.c (.int .i64))], []⟩, 2, [(.panic 75 0, ⟨[], [], []⟩), (.ret, ⟨[], [.env 0 (.c (.fz (.int .u64)))], []⟩)], [.tmp 4], true⟩
noncomputable def Fc101 : (List Int) × Int -> Option ((Int × (Unit)) ⊕ ((List Int)))
 | (a0, a1) =>
 (Fc71 (a1 == 0)).bind fun
 | (.inl (e1, _)) =>
 some (.inl (e1, ()))
 | (.inr _) =>
 some (.inr a0)
theorem callsc101 : CallsL Try.prog 101 Sc101 Fc101 := by
 refine fcalls (fn := Try.f101) (c := (bd Try.f101)) (ann := .none) (cx Ec102_ok) (by kernel_rfl) (annOk_of_cuts nc) (by rintro ⟨a0, a1⟩; kernel_rfl)
noncomputable def Ec101 : List (Nat × Ent) := (101, (funEntL Sc101 true Fc101)) :: Ec102
theorem Ec101_ok : EntsOk Try.prog (ofL Ec101) := cons_ok (fn := Try.f101) (c := (bd Try.f101)) (by kernel_rfl) callsc101 Ec102_ok
abbrev Sc103 : FL := ⟨⟨[], [.env 0 (.c (.fz (.int .u64))), .env 1 (.c (.fz (.int .u64)))], []⟩, 2, [(.ret, ⟨[], [.env 0 (.c (.bool))], []⟩)], [.tmp 4], false⟩
abbrev lc103_0 : Lay := ⟨[], [.env 0 (.c (.fz (.int .u64))), .env 1 (.c (.fz (.int .u64))), .env 12 (.c (.int .i64)), .env 13 (.c (.int .i64))], []⟩
abbrev oc103_0 : List (AExit × Lay) := [(.ret, ⟨[], [.env 4 (.c (.bool))], []⟩), (.exit 0, ⟨[], [], []⟩)]
noncomputable def stepc103_0 : (List Int) × (List Int) × Int × Int -> Option (((List Int) × (List Int) × Int × Int) ⊕ ((Bool) ⊕ (Unit)))
 | (t0, t1, t12, t13) =>
 if (decide (t13 < t12)) = true then
 if (0 : Int) ≤ t13 ∧ t13 < (t0.length : Int) then
 if (0 : Int) ≤ t13 ∧ t13 < (t1.length : Int) then
 if ((t0.getD t13.toNat 0) != (t1.getD t13.toNat 0)) = true then
 some (.inr (.inl false))
 else
 some (.inl (t0, t1, t12, (IntKind.i64.wrap (t13 + 1))))
 else none
 else none
 else
 some (.inr (.inr ()))
noncomputable def Fc103 : (List Int) × (List Int) -> Option ((Bool))
 | (a0, a1) =>
 if ((a0.length : Int) != (a1.length : Int)) = true then
 some false
 else
 (loopO stepc103_0 (a0, a1, (a0.length : Int), 0)).bind fun
 | (.inl z1) =>
 some z1
 | (.inr _) =>
 some true
noncomputable def annc103 : Ann := (.seq .none (.seq .none (.seq (.seq .none (.seq (.cut (cutEnt lc103_0 oc103_0 (loopO (stepc103_0)))) .none)) .none)))
theorem okc103_0 : LOk Try.prog 26 (cutEnt lc103_0 oc103_0 (loopO stepc103_0)) (Code.at' [1, 1, 0, 1, 0] (bd Try.f103)) := by
 have e : Code.at' [1, 1, 0, 1, 0] (bd Try.f103) = .loop (Code.at' [1, 1, 0, 1, 0, 0] (bd Try.f103)) := by kernel_rfl
 rw [e]
 refine loop_ok (ann := .none) (cx Ec101_ok) 26 rfl rfl (annOk_of_cuts nc) (by rintro ⟨t0, t1, t12, t13⟩; kernel_rfl)
theorem callsc103 : CallsL Try.prog 103 Sc103 Fc103 := by
 refine fcalls (fn := Try.f103) (c := (bd Try.f103)) (ann := annc103) (cx Ec101_ok) (by kernel_rfl) (annOk_of_cuts ?_) (by rintro ⟨a0, a1⟩; kernel_rfl)
 exact cut1 (by kernel_rfl) okc103_0
noncomputable def Ec103 : List (Nat × Ent) := (103, (funEntL Sc103 true Fc103)) :: Ec101
theorem Ec103_ok : EntsOk Try.prog (ofL Ec103) := cons_ok (fn := Try.f103) (c := (bd Try.f103)) (by kernel_rfl) callsc103 Ec101_ok
abbrev Sc105 : FL := ⟨⟨[], [.env 0 (.dat .item)], []⟩, 1, [(.ret, ⟨[], [.env 0 (.c (.bool)), .env 1 (.c (.int .i64))], []⟩)], [.tmp 2, .tmp 3], false⟩
noncomputable def Fc105 : Tree -> Option ((Bool × Int))
 | a0 =>
 (Fc88 ((Tree.node a0.tag a0.body a0.kids), 1)).bind fun y1 =>
 if (y1 != 0) = true then
 some (false, y1)
 else
 if ((a0.body.length : Int) != 1) = false then
 if (0 : Int) ≤ (0 : Int) ∧ (0 : Int) < (a0.body.length : Int) then
 if ((a0.body.getD 0 0) != 0) = true then
 if (0 : Int) ≤ (0 : Int) ∧ (0 : Int) < (a0.body.length : Int) then
 if ((a0.body.getD 0 0) != 255) = true then
 some (false, 127)
 else
 if (0 : Int) ≤ (0 : Int) ∧ (0 : Int) < (a0.body.length : Int) then
 some (((a0.body.getD 0 0) != 0), 0)
 else none
 else none
 else
 if (0 : Int) ≤ (0 : Int) ∧ (0 : Int) < (a0.body.length : Int) then
 some (((a0.body.getD 0 0) != 0), 0)
 else none
 else none
 else
 some (false, 127)
theorem callsc105 : CallsL Try.prog 105 Sc105 Fc105 := by
 refine fcalls (fn := Try.f105) (c := (bd Try.f105)) (ann := .none) (cx Ec103_ok) (by kernel_rfl) (annOk_of_cuts nc) (by intro x; kernel_rfl)
noncomputable def Ec105 : List (Nat × Ent) := (105, (funEntL Sc105 true Fc105)) :: Ec103
theorem Ec105_ok : EntsOk Try.prog (ofL Ec105) := cons_ok (fn := Try.f105) (c := (bd Try.f105)) (by kernel_rfl) callsc105 Ec103_ok
abbrev Sc104 : FL := ⟨⟨[], [.env 0 (.c (.bool)), .env 1 (.c (.int .i64))], []⟩, 2, [(.panic 75 0, ⟨[], [], []⟩), (.ret, ⟨[], [.env 0 (.c (.bool))], []⟩)], [.tmp 4], false⟩
noncomputable def Fc104 : Bool × Int -> Option ((Int × (Unit)) ⊕ (Bool))
 | (a0, a1) =>
 (Fc71 (a1 == 0)).bind fun
 | (.inl (e1, _)) =>
 some (.inl (e1, ()))
 | (.inr _) =>
 some (.inr a0)
theorem callsc104 : CallsL Try.prog 104 Sc104 Fc104 := by
 refine fcalls (fn := Try.f104) (c := (bd Try.f104)) (ann := .none) (cx Ec105_ok) (by kernel_rfl) (annOk_of_cuts nc) (by rintro ⟨a0, a1⟩; kernel_rfl)
noncomputable def Ec104 : List (Nat × Ent) := (104, (funEntL Sc104 true Fc104)) :: Ec105
theorem Ec104_ok : EntsOk Try.prog (ofL Ec104) := cons_ok (fn := Try.f104) (c := (bd Try.f104)) (by kernel_rfl) callsc104 Ec105_ok
abbrev Sc77 : FL := ⟨⟨[], [.env 0 (.dat .item)], []⟩, 1, [(.panic 75 0, ⟨[], [], []⟩), (.ret, ⟨[], [.env 0 (.agg [.int .i64, .bool, .fz (.int .u8)])], []⟩)], [.cell 2 45], true⟩
noncomputable def Fc77 : Tree -> Option ((Int × (Unit)) ⊕ (Int × Bool × (List Int)))
 | a0 =>
 if (a0.tag == 48) = true then
 if ((a0.kids.length : Int) == 2) = false then
 (Fc71 ((a0.kids.length : Int) == 3)).bind fun
 | (.inl (e1, _)) =>
 some (.inl (e1, ()))
 | (.inr _) =>
 if (0 : Int) ≤ (0 : Int) ∧ (0 : Int) < (a0.kids.length : Int) then
 (Fc102 (Tree.node (a0.kids.getD 0 (DT.dflt .item)).tag (a0.kids.getD 0 (DT.dflt .item)).body (a0.kids.getD 0 (DT.dflt .item)).kids)).bind fun (y2, y3) =>
 (Fc101 (y2, y3)).bind fun
 | (.inl (e4, _)) =>
 some (.inl (e4, ()))
 | (.inr y5) =>
 if ((y5.length : Int) == 9) = true then
 if (0 : Int) ≤ (8 : Int) ∧ (8 : Int) ≤ (y5.length : Int) then
 let f6 : List Int := (((((((((List.replicate 8 (0 : Int)).set 0 1).set 1 3).set 2 6).set 3 1).set 4 4).set 5 1).set 6 4128).set 7 2100)
 (Fc103 ((y5.take 8), f6)).bind fun y7 =>
 if y7 = true then
 if (0 : Int) ≤ (8 : Int) ∧ (8 : Int) < (y5.length : Int) then
 (Fc71 (decide ((y5.getD 8 0) ≥ 1))).bind fun
 | (.inl (e8, _)) =>
 some (.inl (e8, ()))
 | (.inr _) =>
 if ((a0.kids.length : Int) == 3) = true then
 if (0 : Int) ≤ (1 : Int) ∧ (1 : Int) < (a0.kids.length : Int) then
 (Fc105 (Tree.node (a0.kids.getD 1 (DT.dflt .item)).tag (a0.kids.getD 1 (DT.dflt .item)).body (a0.kids.getD 1 (DT.dflt .item)).kids)).bind fun (y9, y10) =>
 (Fc104 (y9, y10)).bind fun
 | (.inl (e11, _)) =>
 some (.inl (e11, ()))
 | (.inr y12) =>
 (Fc71 y12).bind fun
 | (.inl (e13, _)) =>
 some (.inl (e13, ()))
 | (.inr _) =>
 if (0 : Int) ≤ (IntKind.i64.wrap ((a0.kids.length : Int) - 1)) ∧ (IntKind.i64.wrap ((a0.kids.length : Int) - 1)) < (a0.kids.length : Int) then
 let x14 : Int := (a0.kids.getD (IntKind.i64.wrap ((a0.kids.length : Int) - 1)).toNat (DT.dflt .item)).tag
 let f15 : List Int := (a0.kids.getD (IntKind.i64.wrap ((a0.kids.length : Int) - 1)).toNat (DT.dflt .item)).body
 let f16 : List Tree := (a0.kids.getD (IntKind.i64.wrap ((a0.kids.length : Int) - 1)).toNat (DT.dflt .item)).kids
 (Fc71 (x14 == 4)).bind fun
 | (.inl (e17, _)) =>
 some (.inl (e17, ()))
 | (.inr _) =>
 if (0 : Int) ≤ (8 : Int) ∧ (8 : Int) < (y5.length : Int) then
 some (.inr ((IntKind.i64.wrap (y5.getD 8 0)), ((a0.kids.length : Int) == 3), f15))
 else none
 else none
 else none
 else
 if (0 : Int) ≤ (IntKind.i64.wrap ((a0.kids.length : Int) - 1)) ∧ (IntKind.i64.wrap ((a0.kids.length : Int) - 1)) < (a0.kids.length : Int) then
 let x18 : Int := (a0.kids.getD (IntKind.i64.wrap ((a0.kids.length : Int) - 1)).toNat (DT.dflt .item)).tag
 let f19 : List Int := (a0.kids.getD (IntKind.i64.wrap ((a0.kids.length : Int) - 1)).toNat (DT.dflt .item)).body
 let f20 : List Tree := (a0.kids.getD (IntKind.i64.wrap ((a0.kids.length : Int) - 1)).toNat (DT.dflt .item)).kids
 (Fc71 (x18 == 4)).bind fun
 | (.inl (e21, _)) =>
 some (.inl (e21, ()))
 | (.inr _) =>
 if (0 : Int) ≤ (8 : Int) ∧ (8 : Int) < (y5.length : Int) then
 some (.inr ((IntKind.i64.wrap (y5.getD 8 0)), ((a0.kids.length : Int) == 3), f19))
 else none
 else none
 else none
 else
 (Fc71 false).bind fun
 | (.inl (e22, _)) =>
 some (.inl (e22, ()))
 | (.inr _) =>
 if ((a0.kids.length : Int) == 3) = true then
 if (0 : Int) ≤ (1 : Int) ∧ (1 : Int) < (a0.kids.length : Int) then
 (Fc105 (Tree.node (a0.kids.getD 1 (DT.dflt .item)).tag (a0.kids.getD 1 (DT.dflt .item)).body (a0.kids.getD 1 (DT.dflt .item)).kids)).bind fun (y23, y24) =>
 (Fc104 (y23, y24)).bind fun
 | (.inl (e25, _)) =>
 some (.inl (e25, ()))
 | (.inr y26) =>
 (Fc71 y26).bind fun
 | (.inl (e27, _)) =>
 some (.inl (e27, ()))
 | (.inr _) =>
 if (0 : Int) ≤ (IntKind.i64.wrap ((a0.kids.length : Int) - 1)) ∧ (IntKind.i64.wrap ((a0.kids.length : Int) - 1)) < (a0.kids.length : Int) then
 let x28 : Int := (a0.kids.getD (IntKind.i64.wrap ((a0.kids.length : Int) - 1)).toNat (DT.dflt .item)).tag
 let f29 : List Int := (a0.kids.getD (IntKind.i64.wrap ((a0.kids.length : Int) - 1)).toNat (DT.dflt .item)).body
 let f30 : List Tree := (a0.kids.getD (IntKind.i64.wrap ((a0.kids.length : Int) - 1)).toNat (DT.dflt .item)).kids
 (Fc71 (x28 == 4)).bind fun
 | (.inl (e31, _)) =>
 some (.inl (e31, ()))
 | (.inr _) =>
 if (0 : Int) ≤ (8 : Int) ∧ (8 : Int) < (y5.length : Int) then
 some (.inr ((IntKind.i64.wrap (y5.getD 8 0)), ((a0.kids.length : Int) == 3), f29))
 else none
 else none
 else none
 else
 if (0 : Int) ≤ (IntKind.i64.wrap ((a0.kids.length : Int) - 1)) ∧ (IntKind.i64.wrap ((a0.kids.length : Int) - 1)) < (a0.kids.length : Int) then
 let x32 : Int := (a0.kids.getD (IntKind.i64.wrap ((a0.kids.length : Int) - 1)).toNat (DT.dflt .item)).tag
 let f33 : List Int := (a0.kids.getD (IntKind.i64.wrap ((a0.kids.length : Int) - 1)).toNat (DT.dflt .item)).body
 let f34 : List Tree := (a0.kids.getD (IntKind.i64.wrap ((a0.kids.length : Int) - 1)).toNat (DT.dflt .item)).kids
 (Fc71 (x32 == 4)).bind fun
 | (.inl (e35, _)) =>
 some (.inl (e35, ()))
 | (.inr _) =>
 if (0 : Int) ≤ (8 : Int) ∧ (8 : Int) < (y5.length : Int) then
 some (.inr ((IntKind.i64.wrap (y5.getD 8 0)), ((a0.kids.length : Int) == 3), f33))
 else none
 else none
 else none
 else
 (Fc71 false).bind fun
 | (.inl (e36, _)) =>
 some (.inl (e36, ()))
 | (.inr _) =>
 if ((a0.kids.length : Int) == 3) = true then
 if (0 : Int) ≤ (1 : Int) ∧ (1 : Int) < (a0.kids.length : Int) then
 (Fc105 (Tree.node (a0.kids.getD 1 (DT.dflt .item)).tag (a0.kids.getD 1 (DT.dflt .item)).body (a0.kids.getD 1 (DT.dflt .item)).kids)).bind fun (y37, y38) =>
 (Fc104 (y37, y38)).bind fun
 | (.inl (e39, _)) =>
 some (.inl (e39, ()))
 | (.inr y40) =>
 (Fc71 y40).bind fun
 | (.inl (e41, _)) =>
 some (.inl (e41, ()))
 | (.inr _) =>
 if (0 : Int) ≤ (IntKind.i64.wrap ((a0.kids.length : Int) - 1)) ∧ (IntKind.i64.wrap ((a0.kids.length : Int) - 1)) < (a0.kids.length : Int) then
 let x42 : Int := (a0.kids.getD (IntKind.i64.wrap ((a0.kids.length : Int) - 1)).toNat (DT.dflt .item)).tag
 let f43 : List Int := (a0.kids.getD (IntKind.i64.wrap ((a0.kids.length : Int) - 1)).toNat (DT.dflt .item)).body
 let f44 : List Tree := (a0.kids.getD (IntKind.i64.wrap ((a0.kids.length : Int) - 1)).toNat (DT.dflt .item)).kids
 (Fc71 (x42 == 4)).bind fun
 | (.inl (e45, _)) =>
 some (.inl (e45, ()))
 | (.inr _) =>
 if (0 : Int) ≤ (8 : Int) ∧ (8 : Int) < (y5.length : Int) then
 some (.inr ((IntKind.i64.wrap (y5.getD 8 0)), ((a0.kids.length : Int) == 3), f43))
 else none
 else none
 else none
 else
 if (0 : Int) ≤ (IntKind.i64.wrap ((a0.kids.length : Int) - 1)) ∧ (IntKind.i64.wrap ((a0.kids.length : Int) - 1)) < (a0.kids.length : Int) then
 let x46 : Int := (a0.kids.getD (IntKind.i64.wrap ((a0.kids.length : Int) - 1)).toNat (DT.dflt .item)).tag
 let f47 : List Int := (a0.kids.getD (IntKind.i64.wrap ((a0.kids.length : Int) - 1)).toNat (DT.dflt .item)).body
 let f48 : List Tree := (a0.kids.getD (IntKind.i64.wrap ((a0.kids.length : Int) - 1)).toNat (DT.dflt .item)).kids
 (Fc71 (x46 == 4)).bind fun
 | (.inl (e49, _)) =>
 some (.inl (e49, ()))
 | (.inr _) =>
 if (0 : Int) ≤ (8 : Int) ∧ (8 : Int) < (y5.length : Int) then
 some (.inr ((IntKind.i64.wrap (y5.getD 8 0)), ((a0.kids.length : Int) == 3), f47))
 else none
 else none
 else none
 else
 (Fc71 true).bind fun
 | (.inl (e50, _)) =>
 some (.inl (e50, ()))
 | (.inr _) =>
 if (0 : Int) ≤ (0 : Int) ∧ (0 : Int) < (a0.kids.length : Int) then
 (Fc102 (Tree.node (a0.kids.getD 0 (DT.dflt .item)).tag (a0.kids.getD 0 (DT.dflt .item)).body (a0.kids.getD 0 (DT.dflt .item)).kids)).bind fun (y51, y52) =>
 (Fc101 (y51, y52)).bind fun
 | (.inl (e53, _)) =>
 some (.inl (e53, ()))
 | (.inr y54) =>
 if ((y54.length : Int) == 9) = true then
 if (0 : Int) ≤ (8 : Int) ∧ (8 : Int) ≤ (y54.length : Int) then
 let f55 : List Int := (((((((((List.replicate 8 (0 : Int)).set 0 1).set 1 3).set 2 6).set 3 1).set 4 4).set 5 1).set 6 4128).set 7 2100)
 (Fc103 ((y54.take 8), f55)).bind fun y56 =>
 if y56 = true then
 if (0 : Int) ≤ (8 : Int) ∧ (8 : Int) < (y54.length : Int) then
 (Fc71 (decide ((y54.getD 8 0) ≥ 1))).bind fun
 | (.inl (e57, _)) =>
 some (.inl (e57, ()))
 | (.inr _) =>
 if ((a0.kids.length : Int) == 3) = true then
 if (0 : Int) ≤ (1 : Int) ∧ (1 : Int) < (a0.kids.length : Int) then
 (Fc105 (Tree.node (a0.kids.getD 1 (DT.dflt .item)).tag (a0.kids.getD 1 (DT.dflt .item)).body (a0.kids.getD 1 (DT.dflt .item)).kids)).bind fun (y58, y59) =>
 (Fc104 (y58, y59)).bind fun
 | (.inl (e60, _)) =>
 some (.inl (e60, ()))
 | (.inr y61) =>
 (Fc71 y61).bind fun
 | (.inl (e62, _)) =>
 some (.inl (e62, ()))
 | (.inr _) =>
 if (0 : Int) ≤ (IntKind.i64.wrap ((a0.kids.length : Int) - 1)) ∧ (IntKind.i64.wrap ((a0.kids.length : Int) - 1)) < (a0.kids.length : Int) then
 let x63 : Int := (a0.kids.getD (IntKind.i64.wrap ((a0.kids.length : Int) - 1)).toNat (DT.dflt .item)).tag
 let f64 : List Int := (a0.kids.getD (IntKind.i64.wrap ((a0.kids.length : Int) - 1)).toNat (DT.dflt .item)).body
 let f65 : List Tree := (a0.kids.getD (IntKind.i64.wrap ((a0.kids.length : Int) - 1)).toNat (DT.dflt .item)).kids
 (Fc71 (x63 == 4)).bind fun
 | (.inl (e66, _)) =>
 some (.inl (e66, ()))
 | (.inr _) =>
 if (0 : Int) ≤ (8 : Int) ∧ (8 : Int) < (y54.length : Int) then
 some (.inr ((IntKind.i64.wrap (y54.getD 8 0)), ((a0.kids.length : Int) == 3), f64))
 else none
 else none
 else none
 else
 if (0 : Int) ≤ (IntKind.i64.wrap ((a0.kids.length : Int) - 1)) ∧ (IntKind.i64.wrap ((a0.kids.length : Int) - 1)) < (a0.kids.length : Int) then
 let x67 : Int := (a0.kids.getD (IntKind.i64.wrap ((a0.kids.length : Int) - 1)).toNat (DT.dflt .item)).tag
 let f68 : List Int := (a0.kids.getD (IntKind.i64.wrap ((a0.kids.length : Int) - 1)).toNat (DT.dflt .item)).body
 let f69 : List Tree := (a0.kids.getD (IntKind.i64.wrap ((a0.kids.length : Int) - 1)).toNat (DT.dflt .item)).kids
 (Fc71 (x67 == 4)).bind fun
 | (.inl (e70, _)) =>
 some (.inl (e70, ()))
 | (.inr _) =>
 if (0 : Int) ≤ (8 : Int) ∧ (8 : Int) < (y54.length : Int) then
 some (.inr ((IntKind.i64.wrap (y54.getD 8 0)), ((a0.kids.length : Int) == 3), f68))
 else none
 else none
 else none
 else
 (Fc71 false).bind fun
 | (.inl (e71, _)) =>
 some (.inl (e71, ()))
 | (.inr _) =>
 if ((a0.kids.length : Int) == 3) = true then
 if (0 : Int) ≤ (1 : Int) ∧ (1 : Int) < (a0.kids.length : Int) then
 (Fc105 (Tree.node (a0.kids.getD 1 (DT.dflt .item)).tag (a0.kids.getD 1 (DT.dflt .item)).body (a0.kids.getD 1 (DT.dflt .item)).kids)).bind fun (y72, y73) =>
 (Fc104 (y72, y73)).bind fun
 | (.inl (e74, _)) =>
 some (.inl (e74, ()))
 | (.inr y75) =>
 (Fc71 y75).bind fun
 | (.inl (e76, _)) =>
 some (.inl (e76, ()))
 | (.inr _) =>
 if (0 : Int) ≤ (IntKind.i64.wrap ((a0.kids.length : Int) - 1)) ∧ (IntKind.i64.wrap ((a0.kids.length : Int) - 1)) < (a0.kids.length : Int) then
 let x77 : Int := (a0.kids.getD (IntKind.i64.wrap ((a0.kids.length : Int) - 1)).toNat (DT.dflt .item)).tag
 let f78 : List Int := (a0.kids.getD (IntKind.i64.wrap ((a0.kids.length : Int) - 1)).toNat (DT.dflt .item)).body
 let f79 : List Tree := (a0.kids.getD (IntKind.i64.wrap ((a0.kids.length : Int) - 1)).toNat (DT.dflt .item)).kids
 (Fc71 (x77 == 4)).bind fun
 | (.inl (e80, _)) =>
 some (.inl (e80, ()))
 | (.inr _) =>
 if (0 : Int) ≤ (8 : Int) ∧ (8 : Int) < (y54.length : Int) then
 some (.inr ((IntKind.i64.wrap (y54.getD 8 0)), ((a0.kids.length : Int) == 3), f78))
 else none
 else none
 else none
 else
 if (0 : Int) ≤ (IntKind.i64.wrap ((a0.kids.length : Int) - 1)) ∧ (IntKind.i64.wrap ((a0.kids.length : Int) - 1)) < (a0.kids.length : Int) then
 let x81 : Int := (a0.kids.getD (IntKind.i64.wrap ((a0.kids.length : Int) - 1)).toNat (DT.dflt .item)).tag
 let f82 : List Int := (a0.kids.getD (IntKind.i64.wrap ((a0.kids.length : Int) - 1)).toNat (DT.dflt .item)).body
 let f83 : List Tree := (a0.kids.getD (IntKind.i64.wrap ((a0.kids.length : Int) - 1)).toNat (DT.dflt .item)).kids
 (Fc71 (x81 == 4)).bind fun
 | (.inl (e84, _)) =>
 some (.inl (e84, ()))
 | (.inr _) =>
 if (0 : Int) ≤ (8 : Int) ∧ (8 : Int) < (y54.length : Int) then
 some (.inr ((IntKind.i64.wrap (y54.getD 8 0)), ((a0.kids.length : Int) == 3), f82))
 else none
 else none
 else none
 else
 (Fc71 false).bind fun
 | (.inl (e85, _)) =>
 some (.inl (e85, ()))
 | (.inr _) =>
 if ((a0.kids.length : Int) == 3) = true then
 if (0 : Int) ≤ (1 : Int) ∧ (1 : Int) < (a0.kids.length : Int) then
 (Fc105 (Tree.node (a0.kids.getD 1 (DT.dflt .item)).tag (a0.kids.getD 1 (DT.dflt .item)).body (a0.kids.getD 1 (DT.dflt .item)).kids)).bind fun (y86, y87) =>
 (Fc104 (y86, y87)).bind fun
 | (.inl (e88, _)) =>
 some (.inl (e88, ()))
 | (.inr y89) =>
 (Fc71 y89).bind fun
 | (.inl (e90, _)) =>
 some (.inl (e90, ()))
 | (.inr _) =>
 if (0 : Int) ≤ (IntKind.i64.wrap ((a0.kids.length : Int) - 1)) ∧ (IntKind.i64.wrap ((a0.kids.length : Int) - 1)) < (a0.kids.length : Int) then
 let x91 : Int := (a0.kids.getD (IntKind.i64.wrap ((a0.kids.length : Int) - 1)).toNat (DT.dflt .item)).tag
 let f92 : List Int := (a0.kids.getD (IntKind.i64.wrap ((a0.kids.length : Int) - 1)).toNat (DT.dflt .item)).body
 let f93 : List Tree := (a0.kids.getD (IntKind.i64.wrap ((a0.kids.length : Int) - 1)).toNat (DT.dflt .item)).kids
 (Fc71 (x91 == 4)).bind fun
 | (.inl (e94, _)) =>
 some (.inl (e94, ()))
 | (.inr _) =>
 if (0 : Int) ≤ (8 : Int) ∧ (8 : Int) < (y54.length : Int) then
 some (.inr ((IntKind.i64.wrap (y54.getD 8 0)), ((a0.kids.length : Int) == 3), f92))
 else none
 else none
 else none
 else
 if (0 : Int) ≤ (IntKind.i64.wrap ((a0.kids.length : Int) - 1)) ∧ (IntKind.i64.wrap ((a0.kids.length : Int) - 1)) < (a0.kids.length : Int) then
 let x95 : Int := (a0.kids.getD (IntKind.i64.wrap ((a0.kids.length : Int) - 1)).toNat (DT.dflt .item)).tag
 let f96 : List Int := (a0.kids.getD (IntKind.i64.wrap ((a0.kids.length : Int) - 1)).toNat (DT.dflt .item)).body
 let f97 : List Tree := (a0.kids.getD (IntKind.i64.wrap ((a0.kids.length : Int) - 1)).toNat (DT.dflt .item)).kids
 (Fc71 (x95 == 4)).bind fun
 | (.inl (e98, _)) =>
 some (.inl (e98, ()))
 | (.inr _) =>
 if (0 : Int) ≤ (8 : Int) ∧ (8 : Int) < (y54.length : Int) then
 some (.inr ((IntKind.i64.wrap (y54.getD 8 0)), ((a0.kids.length : Int) == 3), f96))
 else none
 else none
 else none
 else
 (Fc71 false).bind fun
 | (.inl (e99, _)) =>
 some (.inl (e99, ()))
 | (.inr _) =>
 if (0 : Int) ≤ (0 : Int) ∧ (0 : Int) < (a0.kids.length : Int) then
 (Fc102 (Tree.node (a0.kids.getD 0 (DT.dflt .item)).tag (a0.kids.getD 0 (DT.dflt .item)).body (a0.kids.getD 0 (DT.dflt .item)).kids)).bind fun (y100, y101) =>
 (Fc101 (y100, y101)).bind fun
 | (.inl (e102, _)) =>
 some (.inl (e102, ()))
 | (.inr y103) =>
 if ((y103.length : Int) == 9) = true then
 if (0 : Int) ≤ (8 : Int) ∧ (8 : Int) ≤ (y103.length : Int) then
 let f104 : List Int := (((((((((List.replicate 8 (0 : Int)).set 0 1).set 1 3).set 2 6).set 3 1).set 4 4).set 5 1).set 6 4128).set 7 2100)
 (Fc103 ((y103.take 8), f104)).bind fun y105 =>
 if y105 = true then
 if (0 : Int) ≤ (8 : Int) ∧ (8 : Int) < (y103.length : Int) then
 (Fc71 (decide ((y103.getD 8 0) ≥ 1))).bind fun
 | (.inl (e106, _)) =>
 some (.inl (e106, ()))
 | (.inr _) =>
 if ((a0.kids.length : Int) == 3) = true then
 if (0 : Int) ≤ (1 : Int) ∧ (1 : Int) < (a0.kids.length : Int) then
 (Fc105 (Tree.node (a0.kids.getD 1 (DT.dflt .item)).tag (a0.kids.getD 1 (DT.dflt .item)).body (a0.kids.getD 1 (DT.dflt .item)).kids)).bind fun (y107, y108) =>
 (Fc104 (y107, y108)).bind fun
 | (.inl (e109, _)) =>
 some (.inl (e109, ()))
 | (.inr y110) =>
 (Fc71 y110).bind fun
 | (.inl (e111, _)) =>
 some (.inl (e111, ()))
 | (.inr _) =>
 if (0 : Int) ≤ (IntKind.i64.wrap ((a0.kids.length : Int) - 1)) ∧ (IntKind.i64.wrap ((a0.kids.length : Int) - 1)) < (a0.kids.length : Int) then
 let x112 : Int := (a0.kids.getD (IntKind.i64.wrap ((a0.kids.length : Int) - 1)).toNat (DT.dflt .item)).tag
 let f113 : List Int := (a0.kids.getD (IntKind.i64.wrap ((a0.kids.length : Int) - 1)).toNat (DT.dflt .item)).body
 let f114 : List Tree := (a0.kids.getD (IntKind.i64.wrap ((a0.kids.length : Int) - 1)).toNat (DT.dflt .item)).kids
 (Fc71 (x112 == 4)).bind fun
 | (.inl (e115, _)) =>
 some (.inl (e115, ()))
 | (.inr _) =>
 if (0 : Int) ≤ (8 : Int) ∧ (8 : Int) < (y103.length : Int) then
 some (.inr ((IntKind.i64.wrap (y103.getD 8 0)), ((a0.kids.length : Int) == 3), f113))
 else none
 else none
 else none
 else
 if (0 : Int) ≤ (IntKind.i64.wrap ((a0.kids.length : Int) - 1)) ∧ (IntKind.i64.wrap ((a0.kids.length : Int) - 1)) < (a0.kids.length : Int) then
 let x116 : Int := (a0.kids.getD (IntKind.i64.wrap ((a0.kids.length : Int) - 1)).toNat (DT.dflt .item)).tag
 let f117 : List Int := (a0.kids.getD (IntKind.i64.wrap ((a0.kids.length : Int) - 1)).toNat (DT.dflt .item)).body
 let f118 : List Tree := (a0.kids.getD (IntKind.i64.wrap ((a0.kids.length : Int) - 1)).toNat (DT.dflt .item)).kids
 (Fc71 (x116 == 4)).bind fun
 | (.inl (e119, _)) =>
 some (.inl (e119, ()))
 | (.inr _) =>
 if (0 : Int) ≤ (8 : Int) ∧ (8 : Int) < (y103.length : Int) then
 some (.inr ((IntKind.i64.wrap (y103.getD 8 0)), ((a0.kids.length : Int) == 3), f117))
 else none
 else none
 else none
 else
 (Fc71 false).bind fun
 | (.inl (e120, _)) =>
 some (.inl (e120, ()))
 | (.inr _) =>
 if ((a0.kids.length : Int) == 3) = true then
 if (0 : Int) ≤ (1 : Int) ∧ (1 : Int) < (a0.kids.length : Int) then
 (Fc105 (Tree.node (a0.kids.getD 1 (DT.dflt .item)).tag (a0.kids.getD 1 (DT.dflt .item)).body (a0.kids.getD 1 (DT.dflt .item)).kids)).bind fun (y121, y122) =>
 (Fc104 (y121, y122)).bind fun
 | (.inl (e123, _)) =>
 some (.inl (e123, ()))
 | (.inr y124) =>
 (Fc71 y124).bind fun
 | (.inl (e125, _)) =>
 some (.inl (e125, ()))
 | (.inr _) =>
 if (0 : Int) ≤ (IntKind.i64.wrap ((a0.kids.length : Int) - 1)) ∧ (IntKind.i64.wrap ((a0.kids.length : Int) - 1)) < (a0.kids.length : Int) then
 let x126 : Int := (a0.kids.getD (IntKind.i64.wrap ((a0.kids.length : Int) - 1)).toNat (DT.dflt .item)).tag
 let f127 : List Int := (a0.kids.getD (IntKind.i64.wrap ((a0.kids.length : Int) - 1)).toNat (DT.dflt .item)).body
 let f128 : List Tree := (a0.kids.getD (IntKind.i64.wrap ((a0.kids.length : Int) - 1)).toNat (DT.dflt .item)).kids
 (Fc71 (x126 == 4)).bind fun
 | (.inl (e129, _)) =>
 some (.inl (e129, ()))
 | (.inr _) =>
 if (0 : Int) ≤ (8 : Int) ∧ (8 : Int) < (y103.length : Int) then
 some (.inr ((IntKind.i64.wrap (y103.getD 8 0)), ((a0.kids.length : Int) == 3), f127))
 else none
 else none
 else none
 else
 if (0 : Int) ≤ (IntKind.i64.wrap ((a0.kids.length : Int) - 1)) ∧ (IntKind.i64.wrap ((a0.kids.length : Int) - 1)) < (a0.kids.length : Int) then
 let x130 : Int := (a0.kids.getD (IntKind.i64.wrap ((a0.kids.length : Int) - 1)).toNat (DT.dflt .item)).tag
 let f131 : List Int := (a0.kids.getD (IntKind.i64.wrap ((a0.kids.length : Int) - 1)).toNat (DT.dflt .item)).body
 let f132 : List Tree := (a0.kids.getD (IntKind.i64.wrap ((a0.kids.length : Int) - 1)).toNat (DT.dflt .item)).kids
 (Fc71 (x130 == 4)).bind fun
 | (.inl (e133, _)) =>
 some (.inl (e133, ()))
 | (.inr _) =>
 if (0 : Int) ≤ (8 : Int) ∧ (8 : Int) < (y103.length : Int) then
 some (.inr ((IntKind.i64.wrap (y103.getD 8 0)), ((a0.kids.length : Int) == 3), f131))
 else none
 else none
 else none
 else
 (Fc71 false).bind fun
 | (.inl (e134, _)) =>
 some (.inl (e134, ()))
 | (.inr _) =>
 if ((a0.kids.length : Int) == 3) = true then
 if (0 : Int) ≤ (1 : Int) ∧ (1 : Int) < (a0.kids.length : Int) then
 (Fc105 (Tree.node (a0.kids.getD 1 (DT.dflt .item)).tag (a0.kids.getD 1 (DT.dflt .item)).body (a0.kids.getD 1 (DT.dflt .item)).kids)).bind fun (y135, y136) =>
 (Fc104 (y135, y136)).bind fun
 | (.inl (e137, _)) =>
 some (.inl (e137, ()))
 | (.inr y138) =>
 (Fc71 y138).bind fun
 | (.inl (e139, _)) =>
 some (.inl (e139, ()))
 | (.inr _) =>
 if (0 : Int) ≤ (IntKind.i64.wrap ((a0.kids.length : Int) - 1)) ∧ (IntKind.i64.wrap ((a0.kids.length : Int) - 1)) < (a0.kids.length : Int) then
 let x140 : Int := (a0.kids.getD (IntKind.i64.wrap ((a0.kids.length : Int) - 1)).toNat (DT.dflt .item)).tag
 let f141 : List Int := (a0.kids.getD (IntKind.i64.wrap ((a0.kids.length : Int) - 1)).toNat (DT.dflt .item)).body
 let f142 : List Tree := (a0.kids.getD (IntKind.i64.wrap ((a0.kids.length : Int) - 1)).toNat (DT.dflt .item)).kids
 (Fc71 (x140 == 4)).bind fun
 | (.inl (e143, _)) =>
 some (.inl (e143, ()))
 | (.inr _) =>
 if (0 : Int) ≤ (8 : Int) ∧ (8 : Int) < (y103.length : Int) then
 some (.inr ((IntKind.i64.wrap (y103.getD 8 0)), ((a0.kids.length : Int) == 3), f141))
 else none
 else none
 else none
 else
 if (0 : Int) ≤ (IntKind.i64.wrap ((a0.kids.length : Int) - 1)) ∧ (IntKind.i64.wrap ((a0.kids.length : Int) - 1)) < (a0.kids.length : Int) then
 let x144 : Int := (a0.kids.getD (IntKind.i64.wrap ((a0.kids.length : Int) - 1)).toNat (DT.dflt .item)).tag
 let f145 : List Int := (a0.kids.getD (IntKind.i64.wrap ((a0.kids.length : Int) - 1)).toNat (DT.dflt .item)).body
 let f146 : List Tree := (a0.kids.getD (IntKind.i64.wrap ((a0.kids.length : Int) - 1)).toNat (DT.dflt .item)).kids
 (Fc71 (x144 == 4)).bind fun
 | (.inl (e147, _)) =>
 some (.inl (e147, ()))
 | (.inr _) =>
 if (0 : Int) ≤ (8 : Int) ∧ (8 : Int) < (y103.length : Int) then
 some (.inr ((IntKind.i64.wrap (y103.getD 8 0)), ((a0.kids.length : Int) == 3), f145))
 else none
 else none
 else none
theorem callsc77 : CallsL Try.prog 77 Sc77 Fc77 := by
 refine fcalls (fn := Try.f77) (c := (bd Try.f77)) (ann := .none) (cx Ec104_ok) (by kernel_rfl) (annOk_of_cuts nc) (by intro x; kernel_rfl)
noncomputable def Ec77 : List (Nat × Ent) := (77, (funEntL Sc77 true Fc77)) :: Ec104
theorem Ec77_ok : EntsOk Try.prog (ofL Ec77) := cons_ok (fn := Try.f77) (c := (bd Try.f77)) (by kernel_rfl) callsc77 Ec104_ok
abbrev Sc42 : FL := ⟨⟨[], [.env 0 (.dat .item)], []⟩, 1, [(.panic 75 0, ⟨[], [], []⟩), (.ret, ⟨[], [.env 0 (.agg [.int .u64, .str, .str, .full 1, .full 3, .full 4]), .reg 1 (.row 5 .u8), .reg 3 (.rowd 45 (.pair (.int .i64) (.pair .bool (.sl (.int .u8))))), .reg 4 (.row 5 .u8)], [(1, .env 0 3), (3, .env 0 4), (4, .env 0 5)]⟩)], [.cell 2 26], true⟩
abbrev lc42_0 : Lay := ⟨[(2, .ptr 2 0 6), (6, .ptr 6 0 6)], [.env 3 (.c (.fz .item)), .env 111 (.c (.fz .item)), .env 112 (.c (.int .i64)), .env 113 (.c (.int .i64)), .reg 2 (.cells [.int .u64, .str, .str, .nils, .nils, .nils]), .reg 6 (.cells [.int .u64, .str, .str, .full 3086, .full 600388, .nils]), .reg 600388 (.rowd 45 (.pair (.int .i64) (.pair .bool (.sl (.int .u8))))), .reg 3086 (.row 5 .u8)], [(2, .env 2 0), (6, .env 6 0), (3086, .reg 6 3), (600388, .reg 6 4)]⟩
abbrev oc42_0 : List (AExit × Lay) := [(.panic 75 0, ⟨[], [], []⟩), (.exit 0, ⟨[(2, .ptr 2 0 6), (6, .ptr 6 0 6)], [.env 3 (.c (.fz .item)), .reg 2 (.cells [.int .u64, .str, .str, .nils, .nils, .nils]), .reg 6 (.cells [.int .u64, .str, .str, .full 3086, .full 600388, .nils]), .reg 3086 (.row 5 .u8), .reg 600388 (.rowd 45 (.pair (.int .i64) (.pair .bool (.sl (.int .u8)))))], [(2, .env 2 0), (6, .env 6 0), (3086, .reg 6 3), (600388, .reg 6 4)]⟩)]
noncomputable def stepc42_0 : (List Tree) × (List Tree) × Int × Int × (Int × ByteArray × ByteArray × Unit × Unit × Unit) × (Int × ByteArray × ByteArray × Unit × Unit × Unit) × (List (Int × (Bool × (List Int)))) × List Int -> Option (((List Tree) × (List Tree) × Int × Int × (Int × ByteArray × ByteArray × Unit × Unit × Unit) × (Int × ByteArray × ByteArray × Unit × Unit × Unit) × (List (Int × (Bool × (List Int)))) × List Int) ⊕ ((Int × (Unit)) ⊕ ((List Tree) × (Int × ByteArray × ByteArray × Unit × Unit × Unit) × (Int × ByteArray × ByteArray × Unit × Unit × Unit) × List Int × (List (Int × (Bool × (List Int)))))))
 | (t3, t111, t112, t113, r2, r6, r600388, r3086) =>
 if (decide (t113 < t112)) = true then
 if (0 : Int) ≤ t113 ∧ t113 < (t111.length : Int) then
 (Fc77 (Tree.node (t111.getD t113.toNat (DT.dflt .item)).tag (t111.getD t113.toNat (DT.dflt .item)).body (t111.getD t113.toNat (DT.dflt .item)).kids)).bind fun
 | (.inl (e56, _)) =>
 some (.inr (.inl (e56, ())))
 | (.inr y57) =>
 let f58 : List (Int × (Bool × (List Int))) := ([(y57.1, (y57.2.1, y57.2.2))] : List (Int × (Bool × (List Int))))
 if okBytes (r600388.length + f58.length) 40 then
 some (.inl (t3, t111, t112, (IntKind.i64.wrap (t113 + 1)), (r2.1, r2.2.1, r2.2.2.1, (), (), ()), (r6.1, r6.2.1, r6.2.2.1, (), (), ()), (r600388 ++ f58), r3086))
 else none
 else none
 else
 some (.inr (.inr (t3, (r2.1, r2.2.1, r2.2.2.1, (), (), ()), (r6.1, r6.2.1, r6.2.2.1, (), (), ()), r3086, r600388)))
noncomputable def Fc42 : Tree -> Option ((Int × (Unit)) ⊕ ((Int × ByteArray × ByteArray × Unit × Unit × Unit) × List Int × (List (Int × (Bool × (List Int)))) × List Int))
 | a0 =>
 (Fc70 ((Tree.node a0.tag a0.body a0.kids), 48, 3)).bind fun
 | (.inl (e1, _)) =>
 some (.inl (e1, ()))
 | (.inr y2) =>
 if (0 : Int) ≤ (0 : Int) ∧ (0 : Int) < (y2.length : Int) then
 if ((y2.getD 0 (DT.dflt .item)).tag == 48) = true then
 if (((y2.getD 0 (DT.dflt .item)).kids.length : Int) == 7) = false then
 (Fc71 (((y2.getD 0 (DT.dflt .item)).kids.length : Int) == 8)).bind fun
 | (.inl (e3, _)) =>
 some (.inl (e3, ()))
 | (.inr _) =>
 if (0 : Int) ≤ (0 : Int) ∧ (0 : Int) < ((y2.getD 0 (DT.dflt .item)).kids.length : Int) then
 let x4 : Int := ((y2.getD 0 (DT.dflt .item)).kids.getD 0 (DT.dflt .item)).tag
 let f5 : List Int := ((y2.getD 0 (DT.dflt .item)).kids.getD 0 (DT.dflt .item)).body
 let f6 : List Tree := ((y2.getD 0 (DT.dflt .item)).kids.getD 0 (DT.dflt .item)).kids
 (Fc70 ((Tree.node x4 f5 f6), 160, 1)).bind fun
 | (.inl (e7, _)) =>
 some (.inl (e7, ()))
 | (.inr y8) =>
 if (0 : Int) ≤ (0 : Int) ∧ (0 : Int) < (y8.length : Int) then
 (Fc52 (Tree.node (y8.getD 0 (DT.dflt .item)).tag (y8.getD 0 (DT.dflt .item)).body (y8.getD 0 (DT.dflt .item)).kids)).bind fun (y9, y10) =>
 (Fc72 (y9, y10)).bind fun
 | (.inl (e11, _)) =>
 some (.inl (e11, ()))
 | (.inr y12) =>
 (Fc71 (y12 == 2)).bind fun
 | (.inl (e13, _)) =>
 some (.inl (e13, ()))
 | (.inr _) =>
 if (0 : Int) ≤ (1 : Int) ∧ (1 : Int) < ((y2.getD 0 (DT.dflt .item)).kids.length : Int) then
 let x14 : Int := ((y2.getD 0 (DT.dflt .item)).kids.getD 1 (DT.dflt .item)).tag
 let f15 : List Int := ((y2.getD 0 (DT.dflt .item)).kids.getD 1 (DT.dflt .item)).body
 let f16 : List Tree := ((y2.getD 0 (DT.dflt .item)).kids.getD 1 (DT.dflt .item)).kids
 (Fc52 (Tree.node x14 f15 f16)).bind fun (y17, y18) =>
 (Fc72 (y17, y18)).bind fun
 | (.inl (e19, _)) =>
 some (.inl (e19, ()))
 | (.inr y20) =>
 if (0 : Int) ≤ (2 : Int) ∧ (2 : Int) < ((y2.getD 0 (DT.dflt .item)).kids.length : Int) then
 let x21 : Int := ((y2.getD 0 (DT.dflt .item)).kids.getD 2 (DT.dflt .item)).tag
 let f22 : List Int := ((y2.getD 0 (DT.dflt .item)).kids.getD 2 (DT.dflt .item)).body
 let f23 : List Tree := ((y2.getD 0 (DT.dflt .item)).kids.getD 2 (DT.dflt .item)).kids
 (Fc48 ()).bind fun y24 =>
 (Fc73 ((Tree.node x21 f22 f23), (Tree.node y24.tag y24.body y24.kids))).bind fun
 | (.inl _) =>
 if (0 : Int) ≤ (3 : Int) ∧ (3 : Int) < ((y2.getD 0 (DT.dflt .item)).kids.length : Int) then
 let x25 : Int := ((y2.getD 0 (DT.dflt .item)).kids.getD 3 (DT.dflt .item)).tag
 let f26 : List Int := ((y2.getD 0 (DT.dflt .item)).kids.getD 3 (DT.dflt .item)).body
 let f27 : List Tree := ((y2.getD 0 (DT.dflt .item)).kids.getD 3 (DT.dflt .item)).kids
 (Fc74 (Tree.node x25 f26 f27)).bind fun
 | (.inl (e28, _)) =>
 some (.inl (e28, ()))
 | (.inr y29) =>
 if (0 : Int) ≤ (4 : Int) ∧ (4 : Int) < ((y2.getD 0 (DT.dflt .item)).kids.length : Int) then
 let x30 : Int := ((y2.getD 0 (DT.dflt .item)).kids.getD 4 (DT.dflt .item)).tag
 let f31 : List Int := ((y2.getD 0 (DT.dflt .item)).kids.getD 4 (DT.dflt .item)).body
 let f32 : List Tree := ((y2.getD 0 (DT.dflt .item)).kids.getD 4 (DT.dflt .item)).kids
 (Fc75 ()).bind fun y33 =>
 (Fc73 ((Tree.node x30 f31 f32), (Tree.node y33.tag y33.body y33.kids))).bind fun
 | (.inl _) =>
 if (0 : Int) ≤ (5 : Int) ∧ (5 : Int) < ((y2.getD 0 (DT.dflt .item)).kids.length : Int) then
 let x34 : Int := ((y2.getD 0 (DT.dflt .item)).kids.getD 5 (DT.dflt .item)).tag
 let f35 : List Int := ((y2.getD 0 (DT.dflt .item)).kids.getD 5 (DT.dflt .item)).body
 let f36 : List Tree := ((y2.getD 0 (DT.dflt .item)).kids.getD 5 (DT.dflt .item)).kids
 (Fc74 (Tree.node x34 f35 f36)).bind fun
 | (.inl (e37, _)) =>
 some (.inl (e37, ()))
 | (.inr y38) =>
 if (0 : Int) ≤ (6 : Int) ∧ (6 : Int) < ((y2.getD 0 (DT.dflt .item)).kids.length : Int) then
 let x39 : Int := ((y2.getD 0 (DT.dflt .item)).kids.getD 6 (DT.dflt .item)).tag
 let f40 : List Int := ((y2.getD 0 (DT.dflt .item)).kids.getD 6 (DT.dflt .item)).body
 let f41 : List Tree := ((y2.getD 0 (DT.dflt .item)).kids.getD 6 (DT.dflt .item)).kids
 (Fc70 ((Tree.node x39 f40 f41), 48, 2)).bind fun
 | (.inl (e42, _)) =>
 some (.inl (e42, ()))
 | (.inr y43) =>
 if (0 : Int) ≤ (0 : Int) ∧ (0 : Int) < (y43.length : Int) then
 (Fc48 ()).bind fun y44 =>
 (Fc73 ((Tree.node (y43.getD 0 (DT.dflt .item)).tag (y43.getD 0 (DT.dflt .item)).body (y43.getD 0 (DT.dflt .item)).kids), (Tree.node y44.tag y44.body y44.kids))).bind fun
 | (.inl _) =>
 if (0 : Int) ≤ (1 : Int) ∧ (1 : Int) < (y43.length : Int) then
 (Fc53 (Tree.node (y43.getD 1 (DT.dflt .item)).tag (y43.getD 1 (DT.dflt .item)).body (y43.getD 1 (DT.dflt .item)).kids)).bind fun (y45, y46) =>
 (Fc76 (y45, y46)).bind fun
 | (.inl (e47, _)) =>
 some (.inl (e47, ()))
 | (.inr y48) =>
 if (((y2.getD 0 (DT.dflt .item)).kids.length : Int) == 8) = true then
 if (0 : Int) ≤ (7 : Int) ∧ (7 : Int) < ((y2.getD 0 (DT.dflt .item)).kids.length : Int) then
 let x49 : Int := ((y2.getD 0 (DT.dflt .item)).kids.getD 7 (DT.dflt .item)).tag
 let f50 : List Int := ((y2.getD 0 (DT.dflt .item)).kids.getD 7 (DT.dflt .item)).body
 let f51 : List Tree := ((y2.getD 0 (DT.dflt .item)).kids.getD 7 (DT.dflt .item)).kids
 (Fc70 ((Tree.node x49 f50 f51), 163, 1)).bind fun
 | (.inl (e52, _)) =>
 some (.inl (e52, ()))
 | (.inr y53) =>
 if (0 : Int) ≤ (0 : Int) ∧ (0 : Int) < (y53.length : Int) then
 if ((y53.getD 0 (DT.dflt .item)).tag == 48) = true then
 let x54 : Bool := (decide (((y53.getD 0 (DT.dflt .item)).kids.length : Int) > 0))
 (Fc71 x54).bind fun
 | (.inl (e55, _)) =>
 some (.inl (e55, ()))
 | (.inr _) =>
 (loopO stepc42_0 (y2, (y53.getD 0 (DT.dflt .item)).kids, ((y53.getD 0 (DT.dflt .item)).kids.length : Int), 0, (0, ByteArray.empty, ByteArray.empty, (), (), ()), (y20, y29, y38, (), (), ()), ([] : List (Int × (Bool × (List Int)))), y48)).bind fun
 | (.inl (e59, _)) =>
 some (.inl (e59, ()))
 | (.inr (z60, z61, z62, z63, z64)) =>
 if (0 : Int) ≤ (1 : Int) ∧ (1 : Int) < (z60.length : Int) then
 (Fc48 ()).bind fun y65 =>
 (Fc73 ((Tree.node (z60.getD 1 (DT.dflt .item)).tag (z60.getD 1 (DT.dflt .item)).body (z60.getD 1 (DT.dflt .item)).kids), (Tree.node y65.tag y65.body y65.kids))).bind fun
 | (.inl _) =>
 if (0 : Int) ≤ (2 : Int) ∧ (2 : Int) < (z60.length : Int) then
 (Fc53 (Tree.node (z60.getD 2 (DT.dflt .item)).tag (z60.getD 2 (DT.dflt .item)).body (z60.getD 2 (DT.dflt .item)).kids)).bind fun (y66, y67) =>
 (Fc76 (y66, y67)).bind fun
 | (.inl (e68, _)) =>
 some (.inl (e68, ()))
 | (.inr y69) =>
 some (.inr ((z62.1, z62.2.1, z62.2.2.1, (), (), ()), z63, z64, y69))
 else none
 | (.inr (e70, _)) =>
 some (.inl (e70, ()))
 else none
 else
 (Fc71 false).bind fun
 | (.inl (e71, _)) =>
 some (.inl (e71, ()))
 | (.inr _) =>
 (loopO stepc42_0 (y2, (y53.getD 0 (DT.dflt .item)).kids, ((y53.getD 0 (DT.dflt .item)).kids.length : Int), 0, (0, ByteArray.empty, ByteArray.empty, (), (), ()), (y20, y29, y38, (), (), ()), ([] : List (Int × (Bool × (List Int)))), y48)).bind fun
 | (.inl (e72, _)) =>
 some (.inl (e72, ()))
 | (.inr (z73, z74, z75, z76, z77)) =>
 if (0 : Int) ≤ (1 : Int) ∧ (1 : Int) < (z73.length : Int) then
 (Fc48 ()).bind fun y78 =>
 (Fc73 ((Tree.node (z73.getD 1 (DT.dflt .item)).tag (z73.getD 1 (DT.dflt .item)).body (z73.getD 1 (DT.dflt .item)).kids), (Tree.node y78.tag y78.body y78.kids))).bind fun
 | (.inl _) =>
 if (0 : Int) ≤ (2 : Int) ∧ (2 : Int) < (z73.length : Int) then
 (Fc53 (Tree.node (z73.getD 2 (DT.dflt .item)).tag (z73.getD 2 (DT.dflt .item)).body (z73.getD 2 (DT.dflt .item)).kids)).bind fun (y79, y80) =>
 (Fc76 (y79, y80)).bind fun
 | (.inl (e81, _)) =>
 some (.inl (e81, ()))
 | (.inr y82) =>
 some (.inr ((z75.1, z75.2.1, z75.2.2.1, (), (), ()), z76, z77, y82))
 else none
 | (.inr (e83, _)) =>
 some (.inl (e83, ()))
 else none
 else none
 else none
 else
 if (0 : Int) ≤ (1 : Int) ∧ (1 : Int) < (y2.length : Int) then
 (Fc48 ()).bind fun y84 =>
 (Fc73 ((Tree.node (y2.getD 1 (DT.dflt .item)).tag (y2.getD 1 (DT.dflt .item)).body (y2.getD 1 (DT.dflt .item)).kids), (Tree.node y84.tag y84.body y84.kids))).bind fun
 | (.inl _) =>
 if (0 : Int) ≤ (2 : Int) ∧ (2 : Int) < (y2.length : Int) then
 (Fc53 (Tree.node (y2.getD 2 (DT.dflt .item)).tag (y2.getD 2 (DT.dflt .item)).body (y2.getD 2 (DT.dflt .item)).kids)).bind fun (y85, y86) =>
 (Fc76 (y85, y86)).bind fun
 | (.inl (e87, _)) =>
 some (.inl (e87, ()))
 | (.inr y88) =>
 some (.inr ((y20, y29, y38, (), (), ()), y48, ([] : List (Int × (Bool × (List Int)))), y88))
 else none
 | (.inr (e89, _)) =>
 some (.inl (e89, ()))
 else none
 else none
 | (.inr (e90, _)) =>
 some (.inl (e90, ()))
 else none
 else none
 else none
 | (.inr (e91, _)) =>
 some (.inl (e91, ()))
 else none
 else none
 | (.inr (e92, _)) =>
 some (.inl (e92, ()))
 else none
 else none
 else none
 else none
 else
 (Fc71 true).bind fun
 | (.inl (e93, _)) =>
 some (.inl (e93, ()))
 | (.inr _) =>
 if (0 : Int) ≤ (0 : Int) ∧ (0 : Int) < ((y2.getD 0 (DT.dflt .item)).kids.length : Int) then
 let x94 : Int := ((y2.getD 0 (DT.dflt .item)).kids.getD 0 (DT.dflt .item)).tag
 let f95 : List Int := ((y2.getD 0 (DT.dflt .item)).kids.getD 0 (DT.dflt .item)).body
 let f96 : List Tree := ((y2.getD 0 (DT.dflt .item)).kids.getD 0 (DT.dflt .item)).kids
 (Fc70 ((Tree.node x94 f95 f96), 160, 1)).bind fun
 | (.inl (e97, _)) =>
 some (.inl (e97, ()))
 | (.inr y98) =>
 if (0 : Int) ≤ (0 : Int) ∧ (0 : Int) < (y98.length : Int) then
 (Fc52 (Tree.node (y98.getD 0 (DT.dflt .item)).tag (y98.getD 0 (DT.dflt .item)).body (y98.getD 0 (DT.dflt .item)).kids)).bind fun (y99, y100) =>
 (Fc72 (y99, y100)).bind fun
 | (.inl (e101, _)) =>
 some (.inl (e101, ()))
 | (.inr y102) =>
 (Fc71 (y102 == 2)).bind fun
 | (.inl (e103, _)) =>
 some (.inl (e103, ()))
 | (.inr _) =>
 if (0 : Int) ≤ (1 : Int) ∧ (1 : Int) < ((y2.getD 0 (DT.dflt .item)).kids.length : Int) then
 let x104 : Int := ((y2.getD 0 (DT.dflt .item)).kids.getD 1 (DT.dflt .item)).tag
 let f105 : List Int := ((y2.getD 0 (DT.dflt .item)).kids.getD 1 (DT.dflt .item)).body
 let f106 : List Tree := ((y2.getD 0 (DT.dflt .item)).kids.getD 1 (DT.dflt .item)).kids
 (Fc52 (Tree.node x104 f105 f106)).bind fun (y107, y108) =>
 (Fc72 (y107, y108)).bind fun
 | (.inl (e109, _)) =>
 some (.inl (e109, ()))
 | (.inr y110) =>
 if (0 : Int) ≤ (2 : Int) ∧ (2 : Int) < ((y2.getD 0 (DT.dflt .item)).kids.length : Int) then
 let x111 : Int := ((y2.getD 0 (DT.dflt .item)).kids.getD 2 (DT.dflt .item)).tag
 let f112 : List Int := ((y2.getD 0 (DT.dflt .item)).kids.getD 2 (DT.dflt .item)).body
 let f113 : List Tree := ((y2.getD 0 (DT.dflt .item)).kids.getD 2 (DT.dflt .item)).kids
 (Fc48 ()).bind fun y114 =>
 (Fc73 ((Tree.node x111 f112 f113), (Tree.node y114.tag y114.body y114.kids))).bind fun
 | (.inl _) =>
 if (0 : Int) ≤ (3 : Int) ∧ (3 : Int) < ((y2.getD 0 (DT.dflt .item)).kids.length : Int) then
 let x115 : Int := ((y2.getD 0 (DT.dflt .item)).kids.getD 3 (DT.dflt .item)).tag
 let f116 : List Int := ((y2.getD 0 (DT.dflt .item)).kids.getD 3 (DT.dflt .item)).body
 let f117 : List Tree := ((y2.getD 0 (DT.dflt .item)).kids.getD 3 (DT.dflt .item)).kids
 (Fc74 (Tree.node x115 f116 f117)).bind fun
 | (.inl (e118, _)) =>
 some (.inl (e118, ()))
 | (.inr y119) =>
 if (0 : Int) ≤ (4 : Int) ∧ (4 : Int) < ((y2.getD 0 (DT.dflt .item)).kids.length : Int) then
 let x120 : Int := ((y2.getD 0 (DT.dflt .item)).kids.getD 4 (DT.dflt .item)).tag
 let f121 : List Int := ((y2.getD 0 (DT.dflt .item)).kids.getD 4 (DT.dflt .item)).body
 let f122 : List Tree := ((y2.getD 0 (DT.dflt .item)).kids.getD 4 (DT.dflt .item)).kids
 (Fc75 ()).bind fun y123 =>
 (Fc73 ((Tree.node x120 f121 f122), (Tree.node y123.tag y123.body y123.kids))).bind fun
 | (.inl _) =>
 if (0 : Int) ≤ (5 : Int) ∧ (5 : Int) < ((y2.getD 0 (DT.dflt .item)).kids.length : Int) then
 let x124 : Int := ((y2.getD 0 (DT.dflt .item)).kids.getD 5 (DT.dflt .item)).tag
 let f125 : List Int := ((y2.getD 0 (DT.dflt .item)).kids.getD 5 (DT.dflt .item)).body
 let f126 : List Tree := ((y2.getD 0 (DT.dflt .item)).kids.getD 5 (DT.dflt .item)).kids
 (Fc74 (Tree.node x124 f125 f126)).bind fun
 | (.inl (e127, _)) =>
 some (.inl (e127, ()))
 | (.inr y128) =>
 if (0 : Int) ≤ (6 : Int) ∧ (6 : Int) < ((y2.getD 0 (DT.dflt .item)).kids.length : Int) then
 let x129 : Int := ((y2.getD 0 (DT.dflt .item)).kids.getD 6 (DT.dflt .item)).tag
 let f130 : List Int := ((y2.getD 0 (DT.dflt .item)).kids.getD 6 (DT.dflt .item)).body
 let f131 : List Tree := ((y2.getD 0 (DT.dflt .item)).kids.getD 6 (DT.dflt .item)).kids
 (Fc70 ((Tree.node x129 f130 f131), 48, 2)).bind fun
 | (.inl (e132, _)) =>
 some (.inl (e132, ()))
 | (.inr y133) =>
 if (0 : Int) ≤ (0 : Int) ∧ (0 : Int) < (y133.length : Int) then
 (Fc48 ()).bind fun y134 =>
 (Fc73 ((Tree.node (y133.getD 0 (DT.dflt .item)).tag (y133.getD 0 (DT.dflt .item)).body (y133.getD 0 (DT.dflt .item)).kids), (Tree.node y134.tag y134.body y134.kids))).bind fun
 | (.inl _) =>
 if (0 : Int) ≤ (1 : Int) ∧ (1 : Int) < (y133.length : Int) then
 (Fc53 (Tree.node (y133.getD 1 (DT.dflt .item)).tag (y133.getD 1 (DT.dflt .item)).body (y133.getD 1 (DT.dflt .item)).kids)).bind fun (y135, y136) =>
 (Fc76 (y135, y136)).bind fun
 | (.inl (e137, _)) =>
 some (.inl (e137, ()))
 | (.inr y138) =>
 if (((y2.getD 0 (DT.dflt .item)).kids.length : Int) == 8) = true then
 if (0 : Int) ≤ (7 : Int) ∧ (7 : Int) < ((y2.getD 0 (DT.dflt .item)).kids.length : Int) then
 let x139 : Int := ((y2.getD 0 (DT.dflt .item)).kids.getD 7 (DT.dflt .item)).tag
 let f140 : List Int := ((y2.getD 0 (DT.dflt .item)).kids.getD 7 (DT.dflt .item)).body
 let f141 : List Tree := ((y2.getD 0 (DT.dflt .item)).kids.getD 7 (DT.dflt .item)).kids
 (Fc70 ((Tree.node x139 f140 f141), 163, 1)).bind fun
 | (.inl (e142, _)) =>
 some (.inl (e142, ()))
 | (.inr y143) =>
 if (0 : Int) ≤ (0 : Int) ∧ (0 : Int) < (y143.length : Int) then
 if ((y143.getD 0 (DT.dflt .item)).tag == 48) = true then
 let x144 : Bool := (decide (((y143.getD 0 (DT.dflt .item)).kids.length : Int) > 0))
 (Fc71 x144).bind fun
 | (.inl (e145, _)) =>
 some (.inl (e145, ()))
 | (.inr _) =>
 (loopO stepc42_0 (y2, (y143.getD 0 (DT.dflt .item)).kids, ((y143.getD 0 (DT.dflt .item)).kids.length : Int), 0, (0, ByteArray.empty, ByteArray.empty, (), (), ()), (y110, y119, y128, (), (), ()), ([] : List (Int × (Bool × (List Int)))), y138)).bind fun
 | (.inl (e146, _)) =>
 some (.inl (e146, ()))
 | (.inr (z147, z148, z149, z150, z151)) =>
 if (0 : Int) ≤ (1 : Int) ∧ (1 : Int) < (z147.length : Int) then
 (Fc48 ()).bind fun y152 =>
 (Fc73 ((Tree.node (z147.getD 1 (DT.dflt .item)).tag (z147.getD 1 (DT.dflt .item)).body (z147.getD 1 (DT.dflt .item)).kids), (Tree.node y152.tag y152.body y152.kids))).bind fun
 | (.inl _) =>
 if (0 : Int) ≤ (2 : Int) ∧ (2 : Int) < (z147.length : Int) then
 (Fc53 (Tree.node (z147.getD 2 (DT.dflt .item)).tag (z147.getD 2 (DT.dflt .item)).body (z147.getD 2 (DT.dflt .item)).kids)).bind fun (y153, y154) =>
 (Fc76 (y153, y154)).bind fun
 | (.inl (e155, _)) =>
 some (.inl (e155, ()))
 | (.inr y156) =>
 some (.inr ((z149.1, z149.2.1, z149.2.2.1, (), (), ()), z150, z151, y156))
 else none
 | (.inr (e157, _)) =>
 some (.inl (e157, ()))
 else none
 else
 (Fc71 false).bind fun
 | (.inl (e158, _)) =>
 some (.inl (e158, ()))
 | (.inr _) =>
 (loopO stepc42_0 (y2, (y143.getD 0 (DT.dflt .item)).kids, ((y143.getD 0 (DT.dflt .item)).kids.length : Int), 0, (0, ByteArray.empty, ByteArray.empty, (), (), ()), (y110, y119, y128, (), (), ()), ([] : List (Int × (Bool × (List Int)))), y138)).bind fun
 | (.inl (e159, _)) =>
 some (.inl (e159, ()))
 | (.inr (z160, z161, z162, z163, z164)) =>
 if (0 : Int) ≤ (1 : Int) ∧ (1 : Int) < (z160.length : Int) then
 (Fc48 ()).bind fun y165 =>
 (Fc73 ((Tree.node (z160.getD 1 (DT.dflt .item)).tag (z160.getD 1 (DT.dflt .item)).body (z160.getD 1 (DT.dflt .item)).kids), (Tree.node y165.tag y165.body y165.kids))).bind fun
 | (.inl _) =>
 if (0 : Int) ≤ (2 : Int) ∧ (2 : Int) < (z160.length : Int) then
 (Fc53 (Tree.node (z160.getD 2 (DT.dflt .item)).tag (z160.getD 2 (DT.dflt .item)).body (z160.getD 2 (DT.dflt .item)).kids)).bind fun (y166, y167) =>
 (Fc76 (y166, y167)).bind fun
 | (.inl (e168, _)) =>
 some (.inl (e168, ()))
 | (.inr y169) =>
 some (.inr ((z162.1, z162.2.1, z162.2.2.1, (), (), ()), z163, z164, y169))
 else none
 | (.inr (e170, _)) =>
 some (.inl (e170, ()))
 else none
 else none
 else none
 else
 if (0 : Int) ≤ (1 : Int) ∧ (1 : Int) < (y2.length : Int) then
 (Fc48 ()).bind fun y171 =>
 (Fc73 ((Tree.node (y2.getD 1 (DT.dflt .item)).tag (y2.getD 1 (DT.dflt .item)).body (y2.getD 1 (DT.dflt .item)).kids), (Tree.node y171.tag y171.body y171.kids))).bind fun
 | (.inl _) =>
 if (0 : Int) ≤ (2 : Int) ∧ (2 : Int) < (y2.length : Int) then
 (Fc53 (Tree.node (y2.getD 2 (DT.dflt .item)).tag (y2.getD 2 (DT.dflt .item)).body (y2.getD 2 (DT.dflt .item)).kids)).bind fun (y172, y173) =>
 (Fc76 (y172, y173)).bind fun
 | (.inl (e174, _)) =>
 some (.inl (e174, ()))
 | (.inr y175) =>
 some (.inr ((y110, y119, y128, (), (), ()), y138, ([] : List (Int × (Bool × (List Int)))), y175))
 else none
 | (.inr (e176, _)) =>
 some (.inl (e176, ()))
 else none
 else none
 | (.inr (e177, _)) =>
 some (.inl (e177, ()))
 else none
 else none
 else none
 | (.inr (e178, _)) =>
 some (.inl (e178, ()))
 else none
 else none
 | (.inr (e179, _)) =>
 some (.inl (e179, ()))
 else none
 else none
 else none
 else none
 else
 (Fc71 false).bind fun
 | (.inl (e180, _)) =>
 some (.inl (e180, ()))
 | (.inr _) =>
 if (0 : Int) ≤ (0 : Int) ∧ (0 : Int) < ((y2.getD 0 (DT.dflt .item)).kids.length : Int) then
 let x181 : Int := ((y2.getD 0 (DT.dflt .item)).kids.getD 0 (DT.dflt .item)).tag
 let f182 : List Int := ((y2.getD 0 (DT.dflt .item)).kids.getD 0 (DT.dflt .item)).body
 let f183 : List Tree := ((y2.getD 0 (DT.dflt .item)).kids.getD 0 (DT.dflt .item)).kids
 (Fc70 ((Tree.node x181 f182 f183), 160, 1)).bind fun
 | (.inl (e184, _)) =>
 some (.inl (e184, ()))
 | (.inr y185) =>
 if (0 : Int) ≤ (0 : Int) ∧ (0 : Int) < (y185.length : Int) then
 (Fc52 (Tree.node (y185.getD 0 (DT.dflt .item)).tag (y185.getD 0 (DT.dflt .item)).body (y185.getD 0 (DT.dflt .item)).kids)).bind fun (y186, y187) =>
 (Fc72 (y186, y187)).bind fun
 | (.inl (e188, _)) =>
 some (.inl (e188, ()))
 | (.inr y189) =>
 (Fc71 (y189 == 2)).bind fun
 | (.inl (e190, _)) =>
 some (.inl (e190, ()))
 | (.inr _) =>
 if (0 : Int) ≤ (1 : Int) ∧ (1 : Int) < ((y2.getD 0 (DT.dflt .item)).kids.length : Int) then
 let x191 : Int := ((y2.getD 0 (DT.dflt .item)).kids.getD 1 (DT.dflt .item)).tag
 let f192 : List Int := ((y2.getD 0 (DT.dflt .item)).kids.getD 1 (DT.dflt .item)).body
 let f193 : List Tree := ((y2.getD 0 (DT.dflt .item)).kids.getD 1 (DT.dflt .item)).kids
 (Fc52 (Tree.node x191 f192 f193)).bind fun (y194, y195) =>
 (Fc72 (y194, y195)).bind fun
 | (.inl (e196, _)) =>
 some (.inl (e196, ()))
 | (.inr y197) =>
 if (0 : Int) ≤ (2 : Int) ∧ (2 : Int) < ((y2.getD 0 (DT.dflt .item)).kids.length : Int) then
 let x198 : Int := ((y2.getD 0 (DT.dflt .item)).kids.getD 2 (DT.dflt .item)).tag
 let f199 : List Int := ((y2.getD 0 (DT.dflt .item)).kids.getD 2 (DT.dflt .item)).body
 let f200 : List Tree := ((y2.getD 0 (DT.dflt .item)).kids.getD 2 (DT.dflt .item)).kids
 (Fc48 ()).bind fun y201 =>
 (Fc73 ((Tree.node x198 f199 f200), (Tree.node y201.tag y201.body y201.kids))).bind fun
 | (.inl _) =>
 if (0 : Int) ≤ (3 : Int) ∧ (3 : Int) < ((y2.getD 0 (DT.dflt .item)).kids.length : Int) then
 let x202 : Int := ((y2.getD 0 (DT.dflt .item)).kids.getD 3 (DT.dflt .item)).tag
 let f203 : List Int := ((y2.getD 0 (DT.dflt .item)).kids.getD 3 (DT.dflt .item)).body
 let f204 : List Tree := ((y2.getD 0 (DT.dflt .item)).kids.getD 3 (DT.dflt .item)).kids
 (Fc74 (Tree.node x202 f203 f204)).bind fun
 | (.inl (e205, _)) =>
 some (.inl (e205, ()))
 | (.inr y206) =>
 if (0 : Int) ≤ (4 : Int) ∧ (4 : Int) < ((y2.getD 0 (DT.dflt .item)).kids.length : Int) then
 let x207 : Int := ((y2.getD 0 (DT.dflt .item)).kids.getD 4 (DT.dflt .item)).tag
 let f208 : List Int := ((y2.getD 0 (DT.dflt .item)).kids.getD 4 (DT.dflt .item)).body
 let f209 : List Tree := ((y2.getD 0 (DT.dflt .item)).kids.getD 4 (DT.dflt .item)).kids
 (Fc75 ()).bind fun y210 =>
 (Fc73 ((Tree.node x207 f208 f209), (Tree.node y210.tag y210.body y210.kids))).bind fun
 | (.inl _) =>
 if (0 : Int) ≤ (5 : Int) ∧ (5 : Int) < ((y2.getD 0 (DT.dflt .item)).kids.length : Int) then
 let x211 : Int := ((y2.getD 0 (DT.dflt .item)).kids.getD 5 (DT.dflt .item)).tag
 let f212 : List Int := ((y2.getD 0 (DT.dflt .item)).kids.getD 5 (DT.dflt .item)).body
 let f213 : List Tree := ((y2.getD 0 (DT.dflt .item)).kids.getD 5 (DT.dflt .item)).kids
 (Fc74 (Tree.node x211 f212 f213)).bind fun
 | (.inl (e214, _)) =>
 some (.inl (e214, ()))
 | (.inr y215) =>
 if (0 : Int) ≤ (6 : Int) ∧ (6 : Int) < ((y2.getD 0 (DT.dflt .item)).kids.length : Int) then
 let x216 : Int := ((y2.getD 0 (DT.dflt .item)).kids.getD 6 (DT.dflt .item)).tag
 let f217 : List Int := ((y2.getD 0 (DT.dflt .item)).kids.getD 6 (DT.dflt .item)).body
 let f218 : List Tree := ((y2.getD 0 (DT.dflt .item)).kids.getD 6 (DT.dflt .item)).kids
 (Fc70 ((Tree.node x216 f217 f218), 48, 2)).bind fun
 | (.inl (e219, _)) =>
 some (.inl (e219, ()))
 | (.inr y220) =>
 if (0 : Int) ≤ (0 : Int) ∧ (0 : Int) < (y220.length : Int) then
 (Fc48 ()).bind fun y221 =>
 (Fc73 ((Tree.node (y220.getD 0 (DT.dflt .item)).tag (y220.getD 0 (DT.dflt .item)).body (y220.getD 0 (DT.dflt .item)).kids), (Tree.node y221.tag y221.body y221.kids))).bind fun
 | (.inl _) =>
 if (0 : Int) ≤ (1 : Int) ∧ (1 : Int) < (y220.length : Int) then
 (Fc53 (Tree.node (y220.getD 1 (DT.dflt .item)).tag (y220.getD 1 (DT.dflt .item)).body (y220.getD 1 (DT.dflt .item)).kids)).bind fun (y222, y223) =>
 (Fc76 (y222, y223)).bind fun
 | (.inl (e224, _)) =>
 some (.inl (e224, ()))
 | (.inr y225) =>
 if (((y2.getD 0 (DT.dflt .item)).kids.length : Int) == 8) = true then
 if (0 : Int) ≤ (7 : Int) ∧ (7 : Int) < ((y2.getD 0 (DT.dflt .item)).kids.length : Int) then
 let x226 : Int := ((y2.getD 0 (DT.dflt .item)).kids.getD 7 (DT.dflt .item)).tag
 let f227 : List Int := ((y2.getD 0 (DT.dflt .item)).kids.getD 7 (DT.dflt .item)).body
 let f228 : List Tree := ((y2.getD 0 (DT.dflt .item)).kids.getD 7 (DT.dflt .item)).kids
 (Fc70 ((Tree.node x226 f227 f228), 163, 1)).bind fun
 | (.inl (e229, _)) =>
 some (.inl (e229, ()))
 | (.inr y230) =>
 if (0 : Int) ≤ (0 : Int) ∧ (0 : Int) < (y230.length : Int) then
 if ((y230.getD 0 (DT.dflt .item)).tag == 48) = true then
 let x231 : Bool := (decide (((y230.getD 0 (DT.dflt .item)).kids.length : Int) > 0))
 (Fc71 x231).bind fun
 | (.inl (e232, _)) =>
 some (.inl (e232, ()))
 | (.inr _) =>
 (loopO stepc42_0 (y2, (y230.getD 0 (DT.dflt .item)).kids, ((y230.getD 0 (DT.dflt .item)).kids.length : Int), 0, (0, ByteArray.empty, ByteArray.empty, (), (), ()), (y197, y206, y215, (), (), ()), ([] : List (Int × (Bool × (List Int)))), y225)).bind fun
 | (.inl (e233, _)) =>
 some (.inl (e233, ()))
 | (.inr (z234, z235, z236, z237, z238)) =>
 if (0 : Int) ≤ (1 : Int) ∧ (1 : Int) < (z234.length : Int) then
 (Fc48 ()).bind fun y239 =>
 (Fc73 ((Tree.node (z234.getD 1 (DT.dflt .item)).tag (z234.getD 1 (DT.dflt .item)).body (z234.getD 1 (DT.dflt .item)).kids), (Tree.node y239.tag y239.body y239.kids))).bind fun
 | (.inl _) =>
 if (0 : Int) ≤ (2 : Int) ∧ (2 : Int) < (z234.length : Int) then
 (Fc53 (Tree.node (z234.getD 2 (DT.dflt .item)).tag (z234.getD 2 (DT.dflt .item)).body (z234.getD 2 (DT.dflt .item)).kids)).bind fun (y240, y241) =>
 (Fc76 (y240, y241)).bind fun
 | (.inl (e242, _)) =>
 some (.inl (e242, ()))
 | (.inr y243) =>
 some (.inr ((z236.1, z236.2.1, z236.2.2.1, (), (), ()), z237, z238, y243))
 else none
 | (.inr (e244, _)) =>
 some (.inl (e244, ()))
 else none
 else
 (Fc71 false).bind fun
 | (.inl (e245, _)) =>
 some (.inl (e245, ()))
 | (.inr _) =>
 (loopO stepc42_0 (y2, (y230.getD 0 (DT.dflt .item)).kids, ((y230.getD 0 (DT.dflt .item)).kids.length : Int), 0, (0, ByteArray.empty, ByteArray.empty, (), (), ()), (y197, y206, y215, (), (), ()), ([] : List (Int × (Bool × (List Int)))), y225)).bind fun
 | (.inl (e246, _)) =>
 some (.inl (e246, ()))
 | (.inr (z247, z248, z249, z250, z251)) =>
 if (0 : Int) ≤ (1 : Int) ∧ (1 : Int) < (z247.length : Int) then
 (Fc48 ()).bind fun y252 =>
 (Fc73 ((Tree.node (z247.getD 1 (DT.dflt .item)).tag (z247.getD 1 (DT.dflt .item)).body (z247.getD 1 (DT.dflt .item)).kids), (Tree.node y252.tag y252.body y252.kids))).bind fun
 | (.inl _) =>
 if (0 : Int) ≤ (2 : Int) ∧ (2 : Int) < (z247.length : Int) then
 (Fc53 (Tree.node (z247.getD 2 (DT.dflt .item)).tag (z247.getD 2 (DT.dflt .item)).body (z247.getD 2 (DT.dflt .item)).kids)).bind fun (y253, y254) =>
 (Fc76 (y253, y254)).bind fun
 | (.inl (e255, _)) =>
 some (.inl (e255, ()))
 | (.inr y256) =>
 some (.inr ((z249.1, z249.2.1, z249.2.2.1, (), (), ()), z250, z251, y256))
 else none
 | (.inr (e257, _)) =>
 some (.inl (e257, ()))
 else none
 else none
 else none
 else
 if (0 : Int) ≤ (1 : Int) ∧ (1 : Int) < (y2.length : Int) then
 (Fc48 ()).bind fun y258 =>
 (Fc73 ((Tree.node (y2.getD 1 (DT.dflt .item)).tag (y2.getD 1 (DT.dflt .item)).body (y2.getD 1 (DT.dflt .item)).kids), (Tree.node y258.tag y258.body y258.kids))).bind fun
 | (.inl _) =>
 if (0 : Int) ≤ (2 : Int) ∧ (2 : Int) < (y2.length : Int) then
 (Fc53 (Tree.node (y2.getD 2 (DT.dflt .item)).tag (y2.getD 2 (DT.dflt .item)).body (y2.getD 2 (DT.dflt .item)).kids)).bind fun (y259, y260) =>
 (Fc76 (y259, y260)).bind fun
 | (.inl (e261, _)) =>
 some (.inl (e261, ()))
 | (.inr y262) =>
 some (.inr ((y197, y206, y215, (), (), ()), y225, ([] : List (Int × (Bool × (List Int)))), y262))
 else none
 | (.inr (e263, _)) =>
 some (.inl (e263, ()))
 else none
 else none
 | (.inr (e264, _)) =>
 some (.inl (e264, ()))
 else none
 else none
 else none
 | (.inr (e265, _)) =>
 some (.inl (e265, ()))
 else none
 else none
 | (.inr (e266, _)) =>
 some (.inl (e266, ()))
 else none
 else none
 else none
 else none
 else none
noncomputable def annc42 : Ann := (.seq .none (.seq .none (.seq .none (.seq .none (.seq .none (.seq .none (.seq .none (.seq .none (.seq .none (.seq .none (.seq .none (.seq .none (.seq .none (.seq .none (.seq (.seq .none (.seq (.seq .none (.seq .none (.seq .none (.seq (.cut (cutEnt lc42_0 oc42_0 (loopO (stepc42_0)))) .none)))) .none)) .none)))))))))))))))
theorem okc42_0 : LOk Try.prog 139 (cutEnt lc42_0 oc42_0 (loopO stepc42_0)) (Code.at' [1, 1, 1, 1, 1, 1, 1, 1, 1, 1, 1, 1, 1, 1, 0, 1, 0, 1, 1, 1, 0] (bd Try.f42)) := by
 have e : Code.at' [1, 1, 1, 1, 1, 1, 1, 1, 1, 1, 1, 1, 1, 1, 0, 1, 0, 1, 1, 1, 0] (bd Try.f42) = .loop (Code.at' [1, 1, 1, 1, 1, 1, 1, 1, 1, 1, 1, 1, 1, 1, 0, 1, 0, 1, 1, 1, 0, 0] (bd Try.f42)) := by kernel_rfl
 rw [e]
 refine loop_ok (ann := .none) (cx Ec77_ok) 139 rfl rfl (annOk_of_cuts nc) (by rintro ⟨t3, t111, t112, t113, r2, r6, r600388, r3086⟩; kernel_rfl)
theorem callsc42 : CallsL Try.prog 42 Sc42 Fc42 := by
 refine fcalls (fn := Try.f42) (c := (bd Try.f42)) (ann := annc42) (cx Ec77_ok) (by kernel_rfl) (annOk_of_cuts ?_) (by intro x; kernel_rfl)
 exact cut1 (by kernel_rfl) okc42_0
noncomputable def Ec42 : List (Nat × Ent) := (42, (funEntL Sc42 true Fc42)) :: Ec77
theorem Ec42_ok : EntsOk Try.prog (ofL Ec42) := cons_ok (fn := Try.f42) (c := (bd Try.f42)) (by kernel_rfl) callsc42 Ec77_ok
abbrev Sc78 : FL := ⟨⟨[], [.env 0 (.c (.str))], []⟩, 1, [(.ret, ⟨[], [.env 0 (.c (.bool))], []⟩)], [.tmp 2], false⟩
abbrev lc78_0 : Lay := ⟨[], [.env 0 (.c (.str)), .env 5 (.c (.int .i64)), .env 6 (.c (.int .i64))], []⟩
abbrev oc78_0 : List (AExit × Lay) := [(.ret, ⟨[], [.env 2 (.c (.bool))], []⟩), (.exit 0, ⟨[], [.env 0 (.c (.str))], []⟩)]
noncomputable def stepc78_0 : ByteArray × Int × Int -> Option ((ByteArray × Int × Int) ⊕ ((Bool) ⊕ (ByteArray)))
 | (t0, t5, t6) =>
 if (decide (t6 < t5)) = true then
 if 0 ≤ t6 ∧ t6 < (t0.size : Int) then
 if (decide ((strAt t0 t6) < 32)) = false then
 if 0 ≤ t6 ∧ t6 < (t0.size : Int) then
 if (decide ((strAt t0 t6) > 126)) = true then
 some (.inr (.inl false))
 else
 some (.inl (t0, t5, (IntKind.i64.wrap (t6 + 1))))
 else none
 else
 some (.inr (.inl false))
 else none
 else
 some (.inr (.inr t0))
noncomputable def Fc78 : ByteArray -> Option ((Bool))
 | a0 =>
 (loopO stepc78_0 (a0, (a0.size : Int), 0)).bind fun
 | (.inl z1) =>
 some z1
 | (.inr z2) =>
 if (decide ((z2.size : Int) ≥ 1)) = true then
 some (decide ((z2.size : Int) ≤ 64))
 else
 some false
noncomputable def annc78 : Ann := (.seq .none (.seq (.seq .none (.seq (.cut (cutEnt lc78_0 oc78_0 (loopO (stepc78_0)))) .none)) .none))
theorem okc78_0 : LOk Try.prog 28 (cutEnt lc78_0 oc78_0 (loopO stepc78_0)) (Code.at' [1, 0, 1, 0] (bd Try.f78)) := by
 have e : Code.at' [1, 0, 1, 0] (bd Try.f78) = .loop (Code.at' [1, 0, 1, 0, 0] (bd Try.f78)) := by kernel_rfl
 rw [e]
 refine loop_ok (ann := .none) (cx Ec42_ok) 28 rfl rfl (annOk_of_cuts nc) (by rintro ⟨t0, t5, t6⟩; kernel_rfl)
theorem callsc78 : CallsL Try.prog 78 Sc78 Fc78 := by
 refine fcalls (fn := Try.f78) (c := (bd Try.f78)) (ann := annc78) (cx Ec42_ok) (by kernel_rfl) (annOk_of_cuts ?_) (by intro x; kernel_rfl)
 exact cut1 (by kernel_rfl) okc78_0
noncomputable def Ec78 : List (Nat × Ent) := (78, (funEntL Sc78 true Fc78)) :: Ec42
theorem Ec78_ok : EntsOk Try.prog (ofL Ec78) := cons_ok (fn := Try.f78) (c := (bd Try.f78)) (by kernel_rfl) callsc78 Ec42_ok
abbrev Sc79 : FL := ⟨⟨[], [.env 0 (.c (.int .i64))], []⟩, 1, [(.ret, ⟨[], [.env 0 (.c (.bool))], []⟩)], [.tmp 2], false⟩
noncomputable def Fc79 : Int -> Option ((Bool))
 | a0 =>
 if (a0 == 1) = false then
 if (a0 == 2) = false then
 if (decide (a0 > 100)) = true then
 if (decide (a0 < 112)) = false then
 if (decide (a0 ≥ 201)) = true then
 some (decide (a0 ≤ 203))
 else
 some false
 else
 some true
 else
 if (decide (a0 ≥ 201)) = true then
 some (decide (a0 ≤ 203))
 else
 some false
 else
 some true
 else
 some true
theorem callsc79 : CallsL Try.prog 79 Sc79 Fc79 := by
 refine fcalls (fn := Try.f79) (c := (bd Try.f79)) (ann := .none) (cx Ec78_ok) (by kernel_rfl) (annOk_of_cuts nc) (by intro x; kernel_rfl)
noncomputable def Ec79 : List (Nat × Ent) := (79, (funEntL Sc79 true Fc79)) :: Ec78
theorem Ec79_ok : EntsOk Try.prog (ofL Ec79) := cons_ok (fn := Try.f79) (c := (bd Try.f79)) (by kernel_rfl) callsc79 Ec78_ok
abbrev Sc43 : FL := ⟨⟨[], [.env 0 (.c (.fzp (.pair (.int .u64) (.pair .str (.pair .str (.pair (.sl (.int .u8)) (.pair (.sl (.pair (.int .i64) (.pair .bool (.sl (.int .u8))))) (.sl (.int .u8)))))))))], []⟩, 1, [(.ret, ⟨[], [.env 0 (.c (.int .i64))], []⟩)], [.tmp 2], false⟩
abbrev lc43_0 : Lay := ⟨[(3, .full 38)], [.env 0 (.c (.fzp (.pair (.int .u64) (.pair .str (.pair .str (.pair (.sl (.int .u8)) (.pair (.sl (.pair (.int .i64) (.pair .bool (.sl (.int .u8))))) (.sl (.int .u8))))))))), .env 42 (.c (.fz (.pair (.int .i64) (.pair .bool (.sl (.int .u8)))))), .env 43 (.c (.int .i64)), .env 44 (.c (.int .i64)), .reg 38 .imap], [(38, .env 3 0)]⟩
abbrev oc43_0 : List (AExit × Lay) := [(.ret, ⟨[], [.env 2 (.c (.int .i64))], []⟩), (.exit 0, ⟨[(3, .full 38)], [.env 0 (.c (.fzp (.pair (.int .u64) (.pair .str (.pair .str (.pair (.sl (.int .u8)) (.pair (.sl (.pair (.int .i64) (.pair .bool (.sl (.int .u8))))) (.sl (.int .u8))))))))), .reg 38 .imap], [(38, .env 3 0)]⟩)]
noncomputable def stepc43_0 : (Int × (ByteArray × (ByteArray × ((List Int) × ((List (Int × (Bool × (List Int)))) × (List Int)))))) × (List (Int × (Bool × (List Int)))) × Int × Int × (List (Int × Int)) -> Option (((Int × (ByteArray × (ByteArray × ((List Int) × ((List (Int × (Bool × (List Int)))) × (List Int)))))) × (List (Int × (Bool × (List Int)))) × Int × Int × (List (Int × Int))) ⊕ ((Int) ⊕ ((Int × (ByteArray × (ByteArray × ((List Int) × ((List (Int × (Bool × (List Int)))) × (List Int)))))) × (List (Int × Int)))))
 | (t0, t42, t43, t44, r38) =>
 if (decide (t44 < t43)) = true then
 if (0 : Int) ≤ t44 ∧ t44 < (t42.length : Int) then
 let x3 : Int := (t42.getD t44.toNat (DT.dflt (.pair (.int .i64) (.pair .bool (.sl (.int .u8)))))).1
 let x4 : Bool := (t42.getD t44.toNat (DT.dflt (.pair (.int .i64) (.pair .bool (.sl (.int .u8)))))).2.1
 let f5 : List Int := (t42.getD t44.toNat (DT.dflt (.pair (.int .i64) (.pair .bool (.sl (.int .u8)))))).2.2
 if (decide (x3 < 1)) = false then
 if (decide (x3 > 2147483647)) = true then
 some (.inr (.inl 134))
 else
 some (.inl ((t0.1, (t0.2.1, (t0.2.2.1, (t0.2.2.2.1, (t0.2.2.2.2.1, t0.2.2.2.2.2))))), t42, t43, (IntKind.i64.wrap (t44 + 1)), (imPut r38 x3 (IntKind.i64.wrap ((imGet r38 x3) + 1)))))
 else
 some (.inr (.inl 134))
 else none
 else
 some (.inr (.inr ((t0.1, (t0.2.1, (t0.2.2.1, (t0.2.2.2.1, (t0.2.2.2.2.1, t0.2.2.2.2.2))))), r38)))
abbrev lc43_1 : Lay := ⟨[], [.env 73 (.c (.fz (.pair (.int .i64) (.pair .bool (.sl (.int .u8)))))), .env 74 (.c (.int .i64)), .env 75 (.c (.int .i64))], []⟩
abbrev oc43_1 : List (AExit × Lay) := [(.ret, ⟨[], [.env 2 (.c (.int .i64))], []⟩), (.exit 2, ⟨[], [], []⟩)]
noncomputable def stepc43_1 : (List (Int × (Bool × (List Int)))) × Int × Int -> Option (((List (Int × (Bool × (List Int)))) × Int × Int) ⊕ ((Int) ⊕ (Unit)))
 | (t73, t74, t75) =>
 if (decide (t75 < t74)) = true then
 if (0 : Int) ≤ t75 ∧ t75 < (t73.length : Int) then
 let x10 : Int := (t73.getD t75.toNat (DT.dflt (.pair (.int .i64) (.pair .bool (.sl (.int .u8)))))).1
 let x11 : Bool := (t73.getD t75.toNat (DT.dflt (.pair (.int .i64) (.pair .bool (.sl (.int .u8)))))).2.1
 let f12 : List Int := (t73.getD t75.toNat (DT.dflt (.pair (.int .i64) (.pair .bool (.sl (.int .u8)))))).2.2
 if x11 = true then
 (Fc79 x10).bind fun y13 =>
 if (!y13) = true then
 some (.inr (.inl 133))
 else
 some (.inl (t73, t74, (IntKind.i64.wrap (t75 + 1))))
 else
 some (.inl (t73, t74, (IntKind.i64.wrap (t75 + 1))))
 else none
 else
 some (.inr (.inr ()))
noncomputable def Fc43 : (Int × (ByteArray × (ByteArray × ((List Int) × ((List (Int × (Bool × (List Int)))) × (List Int)))))) -> Option ((Int))
 | a0 =>
 (Fc78 a0.2.1).bind fun y1 =>
 if (!y1) = false then
 (Fc78 a0.2.2.1).bind fun y2 =>
 if (!y2) = false then
 if ((a0.2.2.2.1.length : Int) != 2017) = false then
 if (decide ((a0.2.2.2.2.1.length : Int) > 16)) = true then
 some 134
 else
 (loopO stepc43_0 ((a0.1, (a0.2.1, (a0.2.2.1, (a0.2.2.2.1, (a0.2.2.2.2.1, a0.2.2.2.2.2))))), a0.2.2.2.2.1, (a0.2.2.2.2.1.length : Int), 0, ([] : List (Int × Int)))).bind fun
 | (.inl z6) =>
 some z6
 | (.inr (z7, z8)) =>
 let x9 : Bool := (decide (((z8.length : Nat) : Int) < (z7.2.2.2.2.1.length : Int)))
 if x9 = true then
 some 132
 else
 (loopO stepc43_1 (z7.2.2.2.2.1, (z7.2.2.2.2.1.length : Int), 0)).bind fun
 | (.inl z14) =>
 some z14
 | (.inr _) =>
 some 0
 else
 some 134
 else
 some 134
 else
 some 134
noncomputable def annc43 : Ann := (.seq .none (.seq .none (.seq .none (.seq (.seq .none (.seq (.cut (cutEnt lc43_0 oc43_0 (loopO (stepc43_0)))) .none)) (.seq .none (.seq (.seq .none (.seq (.cut (cutEnt lc43_1 oc43_1 (loopO (stepc43_1)))) .none)) .none))))))
theorem okc43_0 : LOk Try.prog 88 (cutEnt lc43_0 oc43_0 (loopO stepc43_0)) (Code.at' [1, 1, 1, 0, 1, 0] (bd Try.f43)) := by
 have e : Code.at' [1, 1, 1, 0, 1, 0] (bd Try.f43) = .loop (Code.at' [1, 1, 1, 0, 1, 0, 0] (bd Try.f43)) := by kernel_rfl
 rw [e]
 refine loop_ok (ann := .none) (cx Ec79_ok) 88 rfl rfl (annOk_of_cuts nc) (by rintro ⟨t0, t42, t43, t44, r38⟩; kernel_rfl)
theorem okc43_1 : LOk Try.prog 88 (cutEnt lc43_1 oc43_1 (loopO stepc43_1)) (Code.at' [1, 1, 1, 1, 1, 0, 1, 0] (bd Try.f43)) := by
 have e : Code.at' [1, 1, 1, 1, 1, 0, 1, 0] (bd Try.f43) = .loop (Code.at' [1, 1, 1, 1, 1, 0, 1, 0, 0] (bd Try.f43)) := by kernel_rfl
 rw [e]
 refine loop_ok (ann := .none) (cx Ec79_ok) 88 rfl rfl (annOk_of_cuts nc) (by rintro ⟨t73, t74, t75⟩; kernel_rfl)
theorem callsc43 : CallsL Try.prog 43 Sc43 Fc43 := by
 refine fcalls (fn := Try.f43) (c := (bd Try.f43)) (ann := annc43) (cx Ec79_ok) (by kernel_rfl) (annOk_of_cuts ?_) (by intro x; kernel_rfl)
 exact cut2 (by kernel_rfl) okc43_0 okc43_1
noncomputable def Ec43 : List (Nat × Ent) := (43, (funEntL Sc43 true Fc43)) :: Ec79
theorem Ec43_ok : EntsOk Try.prog (ofL Ec43) := cons_ok (fn := Try.f43) (c := (bd Try.f43)) (by kernel_rfl) callsc43 Ec79_ok
abbrev Sc81 : FL := ⟨⟨[], [.env 0 (.c (.fzp .item)), .env 1 (.c (.int .i64))], []⟩, 2, [(.ret, ⟨[], [], []⟩), (.panic 125 0, ⟨[], [], []⟩)], [], false⟩
noncomputable def cc81 (G : Sc81.inT -> Option Sc81.outT) (hG : CallsL Try.prog 81 Sc81 G) : Ctx Try.prog := ⟨ctab, ofL ((81, funEntL Sc81 true G) :: Ec43), ctabOk, .cons (fun_okL (fn := Try.f81) (c := (bd Try.f81)) (by kernel_rfl) (by kernel_rfl) (by kernel_rfl) (by kernel_rfl) hG) Ec43_ok, cdep, cord⟩
abbrev lc81_0 : Lay := ⟨[], [.env 0 (.c (.fzp (.pair (.int .u8) (.pair (.sl (.int .u8)) (.sl .item))))), .env 1 (.c (.int .i64)), .env 52 (.c (.int .i64)), .env 53 (.c (.int .i64))], []⟩
abbrev oc81_0 : List (AExit × Lay) := [(.panic 125 0, ⟨[], [], []⟩), (.exit 1, ⟨[], [], []⟩)]
noncomputable def stepc81_0 (G : Tree × Int -> Option ((Unit) ⊕ (Int × (Unit)))) : (Int × ((List Int) × (List Tree))) × Int × Int × Int -> Option (((Int × ((List Int) × (List Tree))) × Int × Int × Int) ⊕ ((Int × (Unit)) ⊕ (Unit)))
 | (t0, t1, t52, t53) =>
 if (decide (t53 < t52)) = true then
 if (0 : Int) ≤ t53 ∧ t53 < (t0.2.2.length : Int) then
 (G ((Tree.node (t0.2.2.getD t53.toNat (DT.dflt .item)).tag (t0.2.2.getD t53.toNat (DT.dflt .item)).body (t0.2.2.getD t53.toNat (DT.dflt .item)).kids), (IntKind.i64.wrap (t1 + 1)))).bind fun
 | (.inl _) =>
 some (.inl ((t0.1, (t0.2.1, t0.2.2)), t1, t52, (IntKind.i64.wrap (t53 + 1))))
 | (.inr (e6, _)) =>
 some (.inr (.inl (e6, ())))
 else none
 else
 some (.inr (.inr ()))
noncomputable def annc81_0 (G : Tree × Int -> Option ((Unit) ⊕ (Int × (Unit)))) : Ann := .none
noncomputable def Bc81 (G : Tree × Int -> Option ((Unit) ⊕ (Int × (Unit)))) : Tree × Int -> Option ((Unit) ⊕ (Int × (Unit)))
 | (a0, a1) =>
 if (decide (a1 > 16)) = true then
 (Fc69 125).bind fun (e1, _) =>
 some (.inr (e1, ()))
 else
 if ((bitsAnd .u8 a0.tag 31) == 31) = true then
 (Fc69 123).bind fun (e2, _) =>
 some (.inr (e2, ()))
 else
 (Fc99 a0.tag).bind fun y3 =>
 if y3 = true then
 if (decide ((a0.body.length : Int) > 0)) = false then
 (Fc99 a0.tag).bind fun y4 =>
 if (!y4) = true then
 if (decide ((a0.kids.length : Int) > 0)) = true then
 (Fc69 127).bind fun (e5, _) =>
 some (.inr (e5, ()))
 else
 (loopO (stepc81_0 G) ((a0.tag, (a0.body, a0.kids)), a1, (a0.kids.length : Int), 0)).bind fun
 | (.inl (e7, _)) =>
 some (.inr (e7, ()))
 | (.inr _) =>
 some (.inl ())
 else
 (loopO (stepc81_0 G) ((a0.tag, (a0.body, a0.kids)), a1, (a0.kids.length : Int), 0)).bind fun
 | (.inl (e8, _)) =>
 some (.inr (e8, ()))
 | (.inr _) =>
 some (.inl ())
 else
 (Fc69 127).bind fun (e9, _) =>
 some (.inr (e9, ()))
 else
 (Fc99 a0.tag).bind fun y10 =>
 if (!y10) = true then
 if (decide ((a0.kids.length : Int) > 0)) = true then
 (Fc69 127).bind fun (e11, _) =>
 some (.inr (e11, ()))
 else
 (loopO (stepc81_0 G) ((a0.tag, (a0.body, a0.kids)), a1, (a0.kids.length : Int), 0)).bind fun
 | (.inl (e12, _)) =>
 some (.inr (e12, ()))
 | (.inr _) =>
 some (.inl ())
 else
 (loopO (stepc81_0 G) ((a0.tag, (a0.body, a0.kids)), a1, (a0.kids.length : Int), 0)).bind fun
 | (.inl (e13, _)) =>
 some (.inr (e13, ()))
 | (.inr _) =>
 some (.inl ())
noncomputable def annc81 (G : Tree × Int -> Option ((Unit) ⊕ (Int × (Unit)))) : Ann := (.seq .none (.seq .none (.seq (.cut (cutEnt lc81_0 oc81_0 (loopO (stepc81_0 G)))) .none)))
theorem okc81_0 (G : Sc81.inT -> Option Sc81.outT) (hG : CallsL Try.prog 81 Sc81 G) : LOk Try.prog 66 (cutEnt lc81_0 oc81_0 (loopO (stepc81_0 G))) (Code.at' [1, 1, 0] (bd Try.f81)) := by
 have e : Code.at' [1, 1, 0] (bd Try.f81) = .loop (Code.at' [1, 1, 0, 0] (bd Try.f81)) := by kernel_rfl
 rw [e]
 refine loop_ok (ann := (annc81_0 G)) (cc81 G hG) 66 rfl rfl (annOk_of_cuts nc) (by rintro ⟨t0, t1, t52, t53⟩; kernel_rfl)
theorem bcallsc81 (G : Sc81.inT -> Option Sc81.outT) (hG : CallsL Try.prog 81 Sc81 G) : CallsL Try.prog 81 Sc81 (Bc81 G) := by
 refine fcalls (fn := Try.f81) (c := (bd Try.f81)) (ann := (annc81 G)) (cc81 G hG) (by kernel_rfl) (annOk_of_cuts ?_) (by rintro ⟨a0, a1⟩; kernel_rfl)
 exact cut1 (by kernel_rfl) (okc81_0 G hG)
noncomputable def FRc81 : Nat -> Tree × Int -> Option ((Unit) ⊕ (Int × (Unit)))
 | 0 => fun _ => none
 | k + 1 => Bc81 (FRc81 k)
theorem rcallsc81 : ∀ k, CallsL Try.prog 81 Sc81 (FRc81 k)
 | 0 => fun _ _ _ _ _ _ _ _ h => by cases h
 | k + 1 => bcallsc81 (FRc81 k) (rcallsc81 k)
noncomputable def Fc81 (x : Tree × Int) : Option ((Unit) ⊕ (Int × (Unit))) := FRc81 (20) x
theorem callsc81 : CallsL Try.prog 81 Sc81 Fc81 := fun us x y w fp β h1 h2 h3 h4 => rcallsc81 _ us x y w fp β h1 h2 h3 h4
noncomputable def Ec81 : List (Nat × Ent) := (81, (funEntL Sc81 true Fc81)) :: Ec43
theorem Ec81_ok : EntsOk Try.prog (ofL Ec81) := cons_ok (fn := Try.f81) (c := (bd Try.f81)) (by kernel_rfl) callsc81 Ec43_ok
abbrev Sc106 : FL := ⟨⟨[], [.env 0 (.c (.int .i64))], []⟩, 1, [(.ret, ⟨[(0, .full 1)], [.reg 1 (.row 5 .u8)], [(1, .env 0 0)]⟩)], [.tmp 2], false⟩
noncomputable def Fc106 : Int -> Option ((List Int))
 | a0 =>
 if (decide (a0 < 128)) = true then
 some ((List.replicate 1 (0 : Int)).set 0 (IntKind.u8.wrap a0))
 else
 if (decide (a0 < 256)) = true then
 let f1 : List Int := (((List.replicate 2 (0 : Int)).set 0 129).set 1 (IntKind.u8.wrap a0))
 some f1
 else
 if (decide (a0 < 65536)) = true then
 let f2 : List Int := ((((List.replicate 3 (0 : Int)).set 0 130).set 1 (IntKind.u8.wrap (shrI .i64 a0 8))).set 2 (IntKind.u8.wrap a0))
 some f2
 else
 let f3 : List Int := (((((List.replicate 4 (0 : Int)).set 0 131).set 1 (IntKind.u8.wrap (shrI .i64 a0 16))).set 2 (IntKind.u8.wrap (shrI .i64 a0 8))).set 3 (IntKind.u8.wrap a0))
 some f3
theorem callsc106 : CallsL Try.prog 106 Sc106 Fc106 := by
 refine fcalls (fn := Try.f106) (c := (bd Try.f106)) (ann := .none) (cx Ec81_ok) (by kernel_rfl) (annOk_of_cuts nc) (by intro x; kernel_rfl)
noncomputable def Ec106 : List (Nat × Ent) := (106, (funEntL Sc106 true Fc106)) :: Ec81
theorem Ec106_ok : EntsOk Try.prog (ofL Ec106) := cons_ok (fn := Try.f106) (c := (bd Try.f106)) (by kernel_rfl) callsc106 Ec81_ok
abbrev Sc82 : FL := ⟨⟨[(0, .full 1000000)], [.reg 1000000 (.row 5 .u8), .env 1 (.c (.fzp .item))], [(1000000, .env 0 0)]⟩, 2, [(.ret, ⟨[(0, .full 1)], [.reg 1 (.row 5 .u8)], [(1, .env 0 0)]⟩), (.panic 125 0, ⟨[], [], []⟩)], [.tmp 4], false⟩
noncomputable def cc82 (G : Sc82.inT -> Option Sc82.outT) (hG : CallsL Try.prog 82 Sc82 G) : Ctx Try.prog := ⟨ctab, ofL ((82, funEntL Sc82 true G) :: Ec106), ctabOk, .cons (fun_okL (fn := Try.f82) (c := (bd Try.f82)) (by kernel_rfl) (by kernel_rfl) (by kernel_rfl) (by kernel_rfl) hG) Ec106_ok, cdep, cord⟩
abbrev lc82_0 : Lay := ⟨[(0, .full 1000000), (5, .full 5)], [.env 1 (.c (.fzp (.pair (.int .u8) (.pair (.sl (.int .u8)) (.sl .item))))), .env 20 (.c (.int .i64)), .env 21 (.c (.int .i64)), .reg 1000000 (.row 5 .u8), .reg 5 (.row 5 .u8)], [(5, .env 5 0)]⟩
abbrev oc82_0 : List (AExit × Lay) := [(.panic 125 0, ⟨[], [], []⟩), (.exit 0, ⟨[(0, .full 1000000), (5, .full 5)], [.env 1 (.c (.fzp (.pair (.int .u8) (.pair (.sl (.int .u8)) (.sl .item))))), .reg 1000000 (.row 5 .u8), .reg 5 (.row 5 .u8)], [(5, .env 5 0)]⟩)]
noncomputable def stepc82_0 (G : List Int × Tree -> Option ((List Int) ⊕ (Int × (Unit)))) : (Int × ((List Int) × (List Tree))) × Int × Int × List Int × List Int -> Option (((Int × ((List Int) × (List Tree))) × Int × Int × List Int × List Int) ⊕ ((Int × (Unit)) ⊕ ((Int × ((List Int) × (List Tree))) × List Int × List Int)))
 | (t1, t20, t21, r1000000, r5) =>
 if (decide (t21 < t20)) = true then
 if (0 : Int) ≤ t21 ∧ t21 < (t1.2.2.length : Int) then
 (G (r5, (Tree.node (t1.2.2.getD t21.toNat (DT.dflt .item)).tag (t1.2.2.getD t21.toNat (DT.dflt .item)).body (t1.2.2.getD t21.toNat (DT.dflt .item)).kids))).bind fun
 | (.inl y2) =>
 some (.inl ((t1.1, (t1.2.1, t1.2.2)), t20, (IntKind.i64.wrap (t21 + 1)), r1000000, y2))
 | (.inr (e3, _)) =>
 some (.inr (.inl (e3, ())))
 else none
 else
 some (.inr (.inr ((t1.1, (t1.2.1, t1.2.2)), r1000000, r5)))
noncomputable def annc82_0 (G : List Int × Tree -> Option ((List Int) ⊕ (Int × (Unit)))) : Ann := .none
noncomputable def Bc82 (G : List Int × Tree -> Option ((List Int) ⊕ (Int × (Unit)))) : List Int × Tree -> Option ((List Int) ⊕ (Int × (Unit)))
 | (a0, a1) =>
 (Fc99 a1.tag).bind fun y1 =>
 if y1 = true then
 (loopO (stepc82_0 G) ((a1.tag, (a1.body, a1.kids)), (a1.kids.length : Int), 0, a0, ([] : List Int))).bind fun
 | (.inl (e4, _)) =>
 some (.inr (e4, ()))
 | (.inr (z5, z6, z7)) =>
 if (decide ((z7.length : Int) > 65536)) = true then
 (Fc69 121).bind fun (e8, _) =>
 some (.inr (e8, ()))
 else
 if okBytes (z6.length + ((List.replicate 1 (0 : Int)).set 0 z5.1).length) 1 then
 (Fc106 (z7.length : Int)).bind fun y9 =>
 if okBytes ((z6 ++ ((List.replicate 1 (0 : Int)).set 0 z5.1)).length + y9.length) 1 then
 if okBytes (((z6 ++ ((List.replicate 1 (0 : Int)).set 0 z5.1)) ++ y9).length + z7.length) 1 then
 let f10 : List Int := (((z6 ++ ((List.replicate 1 (0 : Int)).set 0 z5.1)) ++ y9) ++ z7)
 if (decide ((f10.length : Int) > 65536)) = true then
 (Fc69 121).bind fun (e11, _) =>
 some (.inr (e11, ()))
 else
 some (.inl f10)
 else none
 else none
 else none
 else
 if (decide ((a1.body.length : Int) > 65536)) = true then
 (Fc69 121).bind fun (e12, _) =>
 some (.inr (e12, ()))
 else
 if okBytes (a0.length + ((List.replicate 1 (0 : Int)).set 0 a1.tag).length) 1 then
 (Fc106 (a1.body.length : Int)).bind fun y13 =>
 if okBytes ((a0 ++ ((List.replicate 1 (0 : Int)).set 0 a1.tag)).length + y13.length) 1 then
 if okBytes (((a0 ++ ((List.replicate 1 (0 : Int)).set 0 a1.tag)) ++ y13).length + a1.body.length) 1 then
 let f14 : List Int := (((a0 ++ ((List.replicate 1 (0 : Int)).set 0 a1.tag)) ++ y13) ++ a1.body)
 if (decide ((f14.length : Int) > 65536)) = true then
 (Fc69 121).bind fun (e15, _) =>
 some (.inr (e15, ()))
 else
 some (.inl f14)
 else none
 else none
 else none
noncomputable def annc82 (G : List Int × Tree -> Option ((List Int) ⊕ (Int × (Unit)))) : Ann := (.seq .none (.seq .none (.seq (.seq .none (.seq (.seq .none (.seq .none (.seq (.cut (cutEnt lc82_0 oc82_0 (loopO (stepc82_0 G)))) .none))) .none)) .none)))
theorem okc82_0 (G : Sc82.inT -> Option Sc82.outT) (hG : CallsL Try.prog 82 Sc82 G) : LOk Try.prog 56 (cutEnt lc82_0 oc82_0 (loopO (stepc82_0 G))) (Code.at' [1, 1, 0, 1, 0, 1, 1, 0] (bd Try.f82)) := by
 have e : Code.at' [1, 1, 0, 1, 0, 1, 1, 0] (bd Try.f82) = .loop (Code.at' [1, 1, 0, 1, 0, 1, 1, 0, 0] (bd Try.f82)) := by kernel_rfl
 rw [e]
 refine loop_ok (ann := (annc82_0 G)) (cc82 G hG) 56 rfl rfl (annOk_of_cuts nc) (by rintro ⟨t1, t20, t21, r1000000, r5⟩; kernel_rfl)
theorem bcallsc82 (G : Sc82.inT -> Option Sc82.outT) (hG : CallsL Try.prog 82 Sc82 G) : CallsL Try.prog 82 Sc82 (Bc82 G) := by
 refine fcalls (fn := Try.f82) (c := (bd Try.f82)) (ann := (annc82 G)) (cc82 G hG) (by kernel_rfl) (annOk_of_cuts ?_) (by rintro ⟨a0, a1⟩; kernel_rfl)
 exact cut1 (by kernel_rfl) (okc82_0 G hG)
noncomputable def FRc82 : Nat -> List Int × Tree -> Option ((List Int) ⊕ (Int × (Unit)))
 | 0 => fun _ => none
 | k + 1 => Bc82 (FRc82 k)
theorem rcallsc82 : ∀ k, CallsL Try.prog 82 Sc82 (FRc82 k)
 | 0 => fun _ _ _ _ _ _ _ _ h => by cases h
 | k + 1 => bcallsc82 (FRc82 k) (rcallsc82 k)
noncomputable def Fc82 (x : List Int × Tree) : Option ((List Int) ⊕ (Int × (Unit))) := FRc82 (Tree.rank x.2 + 1) x
theorem callsc82 : CallsL Try.prog 82 Sc82 Fc82 := fun us x y w fp β h1 h2 h3 h4 => rcallsc82 _ us x y w fp β h1 h2 h3 h4
noncomputable def Ec82 : List (Nat × Ent) := (82, (funEntL Sc82 true Fc82)) :: Ec106
theorem Ec82_ok : EntsOk Try.prog (ofL Ec82) := cons_ok (fn := Try.f82) (c := (bd Try.f82)) (by kernel_rfl) callsc82 Ec106_ok
abbrev Sc45 : FL := ⟨⟨[], [.env 0 (.dat .item)], []⟩, 1, [(.ret, ⟨[], [.env 0 (.c (.fz (.int .u8))), .env 1 (.c (.int .i64))], []⟩)], [.cell 2 22, .cell 3 27], true⟩
noncomputable def oac45 : Array Oper := opsOf (Code.at' [1, 0] (bd Try.f45))
abbrev SMc45 : FL := ⟨⟨[(2, .ptr 1000001 0 1), (3, .ptr 1000000 0 1)], [.env 1 (.c (.fzp .item)), .reg 1000000 (.cells [.int .i64]), .reg 1000001 (.cells [.fz (.int .u8)])], [(1000000, .env 3 0), (1000001, .env 2 0)]⟩, 4, [(.ret, ⟨[], [.env 0 (.c (.fz (.int .u8))), .env 1 (.c (.int .i64))], []⟩)], [.cell 2 22, .cell 3 27], true⟩
noncomputable def FMc45 : Tree × Int × List Int -> Option (List Int × Int) := fun (i, e, b) =>
  (Fc81 (Tree.node i.tag i.body i.kids, 1)).bind fun
   | .inr (n, _) => (FPc80 n (e, b)).bind fun (e', b') => some (b', e')
   | .inl _ => (Fc82 ([], Tree.node i.tag i.body i.kids)).bind fun
    | .inr (n, _) => (FPc80 n (e, b)).bind fun (e', b') => some (b', e')
    | .inl out => some (out, 0)
noncomputable def Fc45 : Tree -> Option (List Int × Int) := fun (i : Tree) => (FMc45 (Tree.node i.tag i.body i.kids, 0, [])).bind fun (b, e) => some (b, e)
theorem eqMc45 : ∀ x, exec ctab (ofL Ec82) 7 (Code.at' [1, 1] (bd Try.f45)) .none (finD ctab SMc45 [3, 2] (SMc45.inp.enc x) (funEntL Sc80 false FRc80) 125 (fun n => funEntL Sc80 false (FPc80 n))) (SMc45.inp.enc x) = FMc45 x := by
 rintro ⟨i, e, b⟩
 kernel_rfl
theorem eqc45 : ∀ x, deferF ctab (ofL Ec82) 7 (Code.at' [0] (bd Try.f45)) .none Sc45 SMc45 [1, 2, 3] 4 FMc45 x = Fc45 x := by
 intro i
 kernel_rfl
theorem callsc45 : CallsL Try.prog 45 Sc45 Fc45 :=
 defer_callsL (cx Ec82_ok) (fn := Try.f45) (fnc := Try.f80) (A := Code.at' [0] (bd Try.f45)) (rest := Code.at' [1, 1] (bd Try.f45)) (id := 1) (ops := oac45) (cc := (bd Try.f80)) (o0 := opAt oac45 0) (o1 := opAt oac45 1) (tc := 4) (pt := 125) (cs := [3, 2]) (kn := [1, 2, 3]) (SM := SMc45) (SC := Sc80) (annA := .none) (ann := .none) (FR := FRc80) (FPn := FPc80) (FM := FMc45)
  (by kernel_rfl) (by kernel_rfl) (by kernel_rfl) (by kernel_rfl) (by kernel_rfl) (by kernel_rfl) (by kernel_rfl) (by kernel_rfl) (by kernel_rfl) (by kernel_rfl)
  (fun a w => by kernel_rfl) (fun a w vs h => defer_run (o := opAt oac45 1) (ats := #[]) (by kernel_rfl) h)
  (by kernel_rfl) (by kernel_rfl) (by kernel_rfl) (by kernel_rfl) okc80 (by kernel_rfl) (by kernel_rfl) (by kernel_rfl) (by kernel_rfl) (by kernel_rfl) (by kernel_rfl) (by kernel_rfl)
  noCuts noCuts eqMc45 eqc45
noncomputable def Ec45 : List (Nat × Ent) := (45, funEntL Sc45 true Fc45) :: Ec82
theorem Ec45_ok : EntsOk Try.prog (ofL Ec45) := cons_ok (fn := Try.f45) (c := (bd Try.f45)) (by kernel_rfl) callsc45 Ec82_ok
noncomputable def oac40 : Array Oper := opsOf (Code.at' [0] (bd Try.f40))
noncomputable def obc40 : Array Oper := opsOf (Code.at' [1, 0] (bd Try.f40))
noncomputable def occ40 : Array Oper := opsOf (Code.at' [1, 1, 0, 0] (bd Try.f40))
abbrev Sc40 : FL := ⟨⟨[(0, .ptr 1000000 0 6), (1, .ptr 1000001 0 1), (2, .ptr 1000002 0 1)], [.reg 1000000 (.cells [.int .u64, .str, .str, .fz (.int .u8), .fz (.pair (.int .i64) (.pair .bool (.sl (.int .u8)))), .fz (.int .u8)]), .reg 1000001 (.cells [.fz (.int .u8)]), .reg 1000002 (.cells [.int .i64])], [(1000000, .env 0 0), (1000001, .env 1 0), (1000002, .env 2 0)]⟩, 3, [(.ret, ⟨[], [.reg 1000000 (.cells [.int .u64, .str, .str, .fz (.int .u8), .fz (.pair (.int .i64) (.pair .bool (.sl (.int .u8)))), .fz (.int .u8)]), .reg 1000001 (.cells [.fz (.int .u8)]), .reg 1000002 (.cells [.int .i64])], []⟩)], [], true⟩
noncomputable def FRc40 : (Int × ByteArray × ByteArray × List Int × List (Int × Bool × List Int) × List Int) × List Int × Int -> Option ((Int × ByteArray × ByteArray × List Int × List (Int × Bool × List Int) × List Int) × List Int × Int) := fun x => some x
noncomputable def FPc40 (n : Int) : (Int × ByteArray × ByteArray × List Int × List (Int × Bool × List Int) × List Int) × List Int × Int -> Option ((Int × ByteArray × ByteArray × List Int × List (Int × Bool × List Int) × List Int) × List Int × Int) := fun _ => some ((0, ByteArray.empty, ByteArray.empty, [], [], []), [], n)
noncomputable def stc40 (n : Int) (x : Sc40.inT) : St := { env := upd (upd (Sc40.inp.enc x).env 12 (some (.agg [.int .i64 n]))) 13 (some (.c (.bool true))), heap := (Sc40.inp.enc x).heap }
theorem exRc40 : ∀ x, exec ctab (ofL cE0) 20 .skip .none (finL ctab Sc40) (Sc40.inp.enc x) = FRc40 x := by
 intro x
 kernel_rfl
theorem exPc40 (n : Int) : ∀ x, execOps ctab (ofL cE0) 20 occ40 ((List.range' 5 3).map (opAt occ40)) (stc40 n x) [] (fun st' _ => exec ctab (ofL cE0) 20 (Code.at' [1, 1, 0, 1] (bd Try.f40)) .none (finL ctab Sc40) st') (fun _ _ _ _ _ => none) = FPc40 n x := by
 intro x
 kernel_rfl
theorem restRc40 (us : List Value) (x : Sc40.inT) (y : Sc40.outT) (w : World) (fp : FP) (β : Nat -> Value) (hlen : us.length = Sc40.n) (hdfs : fp.dfs = []) (hF : FRc40 x = some y) (R : Rel Try.prog w fp us.length β (Sc40.inp.enc x) { tmps := us.toArray, defers := [] } w) :
  (Code.seq (.region 1 obc40 false) (.cond (.tmp 8) (.seq (.region 2 occ40 false) (Code.at' [1, 1, 0, 1] (bd Try.f40))) .skip)).wp Try.prog (bodyPost Try.prog Try.f40 (EndL Try.prog Sc40 fp w y)) (act2 Try.f40.ntmps 6 3 us .nilIface) w := by
 have nn : Try.f40.ntmps = 20 := by kernel_rfl
 obtain ⟨anc, hb, dfs⟩ := fp
 have hdfs : dfs = [] := hdfs
 subst hdfs
 match us, hlen with
 | [p0, p1, p2], _ =>
 rw [nn]
 have e0 : (opAt obc40 0).dst = some 7 := by kernel_rfl
 have e1 : (opAt obc40 1).dst = some 8 := by kernel_rfl
 have r1 : List.range obc40.size = [0, 1] := by kernel_rfl
 refine wp_seq (wp_region ?_)
 rw [r1]
 refine wpOps_val (o := opAt obc40 0) (v := .nilIface) (w' := w) (by kernel_rfl) (by kernel_rfl) (by kernel_rfl) ?_
 refine wpOps_val (o := opAt obc40 1) (v := .bool false) (w' := w) (by kernel_rfl) (by kernel_rfl) (by kernel_rfl) ?_
 rw [e0, e1]
 refine wp_cond_false (by kernel_rfl) ?_
 refine rest_callsL (cx cE0_ok) (fn := Try.f40) (S := Sc40) (c := .skip) (ann := .none) (y := y) (w := w) (w1 := w) (st := Sc40.inp.enc x) (β := β) (fp := ⟨anc, hb, []⟩) (by kernel_rfl) (by kernel_rfl) (by kernel_rfl) noCuts rfl ((exRc40 x).trans hF) ?_
 refine R.act rfl (by kernel_rfl) (by decide) (fun t av ht => ?_)
 have h1 := R.env t av ht
 match t with
 | 0 => exact avEq h1 (by kernel_rfl)
 | 1 => exact avEq h1 (by kernel_rfl)
 | 2 => exact avEq h1 (by kernel_rfl)
 | t + 3 => cases ht
theorem restPc40 (n : Int) (us : List Value) (x : Sc40.inT) (y : Sc40.outT) (w : World) (fp : FP) (β : Nat -> Value) (hlen : us.length = Sc40.n) (hdfs : fp.dfs = []) (hF : FPc40 n x = some y) (R : Rel Try.prog w fp us.length β (Sc40.inp.enc x) { tmps := us.toArray, defers := [] } w) :
  (Code.seq (.region 1 obc40 false) (.cond (.tmp 8) (.seq (.region 2 occ40 false) (Code.at' [1, 1, 0, 1] (bd Try.f40))) .skip)).wp Try.prog (bodyPost Try.prog Try.f40 (EndL Try.prog Sc40 fp w y)) (act2 Try.f40.ntmps 6 3 us (.iface 75 (.agg #[.int .i64 n]))) w := by
 have nn : Try.f40.ntmps = 20 := by kernel_rfl
 obtain ⟨anc, hb, dfs⟩ := fp
 have hdfs : dfs = [] := hdfs
 subst hdfs
 match us, hlen with
 | [p0, p1, p2], _ =>
 rw [nn]
 have e0 : (opAt obc40 0).dst = some 7 := by kernel_rfl
 have e1 : (opAt obc40 1).dst = some 8 := by kernel_rfl
 have d0 : (opAt occ40 0).dst = some 10 := by kernel_rfl
 have d1 : (opAt occ40 1).dst = some 11 := by kernel_rfl
 have d2 : (opAt occ40 2).dst = some 9 := by kernel_rfl
 have d3 : (opAt occ40 3).dst = some 12 := by kernel_rfl
 have d4 : (opAt occ40 4).dst = some 13 := by kernel_rfl
 have r1 : List.range obc40.size = [0, 1] := by kernel_rfl
 have r2 : List.range occ40.size = 0 :: 1 :: 2 :: 3 :: 4 :: (List.range' 5 3 ++ []) := by kernel_rfl
 refine wp_seq (wp_region ?_)
 rw [r1]
 refine wpOps_val (o := opAt obc40 0) (v := .iface 75 (.agg #[.int .i64 n])) (w' := w) (by kernel_rfl) (by kernel_rfl) (by kernel_rfl) ?_
 refine wpOps_val (o := opAt obc40 1) (v := .bool true) (w' := w) (by kernel_rfl) (by kernel_rfl) (by kernel_rfl) ?_
 rw [e0, e1]
 refine wp_cond_true (by kernel_rfl) (wp_seq (wp_region ?_))
 rw [r2]
 refine wpOps_val (o := opAt occ40 0) (v := .iface 75 (.agg #[.int .i64 n])) (w' := w) (by kernel_rfl) (by kernel_rfl) (by kernel_rfl) ?_
 refine wpOps_val (o := opAt occ40 1) (v := .tuple #[.agg #[.int .i64 n], .bool true]) (w' := w) (by kernel_rfl) (by kernel_rfl) (by kernel_rfl) ?_
 refine wpOps_val (o := opAt occ40 2) (v := .tuple #[.agg #[.int .i64 n], .bool true]) (w' := w) (by kernel_rfl) (by kernel_rfl) (by kernel_rfl) ?_
 refine wpOps_val (o := opAt occ40 3) (v := .agg #[.int .i64 n]) (w' := w) (by kernel_rfl) (by kernel_rfl) (by kernel_rfl) ?_
 refine wpOps_val (o := opAt occ40 4) (v := .bool true) (w' := w) (by kernel_rfl) (by kernel_rfl) (by kernel_rfl) ?_
 rw [d0, d1, d2, d3, d4]
 have e := exPc40 n x
 rw [hF] at e
 have hall := opAt_all (ops := occ40) (i := 5) (k := 3) (by kernel_rfl)
 refine ops_sound (cx cE0_ok) (i := 5) (ops := (List.range' 5 3).map (opAt occ40)) (w0 := w) (fp := ⟨anc, hb, []⟩) e hall ⟨β, ?_⟩ ?_ ?_
 ·refine R.act rfl (by kernel_rfl) (by decide) (fun t av ht => ?_)
  by_cases h13 : t = 13
  ·subst h13
   have ht : some (AV.c (.bool true)) = some av := ht
   cases ht
   exact avBool (by kernel_rfl)
  ·by_cases h12 : t = 12
   ·subst h12
    have ht : some (AV.agg [.int .i64 n]) = some av := ht
    cases ht
    exact avNum (by kernel_rfl)
   ·have ht : upd (upd (Sc40.inp.enc x).env 12 (some (.agg [.int .i64 n]))) 13 (some (.c (.bool true))) t = some av := ht
    rw [upd_ne _ _ h13, upd_ne _ _ h12] at ht
    have h1 := R.env t av ht
    match t with
    | 0 => exact avEq h1 (by kernel_rfl)
    | 1 => exact avEq h1 (by kernel_rfl)
    | 2 => exact avEq h1 (by kernel_rfl)
    | t + 3 => cases ht
 ·rintro st' _ a w' h1 ⟨β', R'⟩
  exact wpOps_end (rest_callsL (cx cE0_ok) (fn := Try.f40) (S := Sc40) (c := Code.at' [1, 1, 0, 1] (bd Try.f40)) (ann := .none) (y := y) (w := w) (w1 := w') (st := st') (a := a) (β := β') (fp := ⟨anc, hb, []⟩) (by kernel_rfl) (by kernel_rfl) (by kernel_rfl) noCuts rfl h1 R')
 ·intro t m st' rest _ a w' h1
  cases h1
theorem cloc40 {u u' : FrameMode} {v : Value} (hu : Recovers u u' v) {F : Sc40.inT -> Option Sc40.outT} (hrest : ∀ (us : List Value) (x : Sc40.inT) (y : Sc40.outT) (w : World) (fp : FP) (β : Nat -> Value), us.length = Sc40.n -> fp.dfs = [] -> F x = some y -> Rel Try.prog w fp us.length β (Sc40.inp.enc x) { tmps := us.toArray, defers := [] } w ->
   (Code.seq (.region 1 obc40 false) (.cond (.tmp 8) (.seq (.region 2 occ40 false) (Code.at' [1, 1, 0, 1] (bd Try.f40))) .skip)).wp Try.prog (bodyPost Try.prog Try.f40 (EndL Try.prog Sc40 fp w y)) (act2 Try.f40.ntmps 6 3 us v) w) : CallsDL Try.prog 40 Sc40 u u' F :=
 clo_callsDL2 (fn := Try.f40) (id := 0) (ops := oac40) (t0 := 6) (t1 := 3) (v := v) (o0 := opAt oac40 0) (o1 := opAt oac40 1) (by kernel_rfl) (by kernel_rfl) (by kernel_rfl) (by kernel_rfl) (by kernel_rfl) (by kernel_rfl) (by kernel_rfl) (by kernel_rfl) (by kernel_rfl) (by kernel_rfl) (fun a w => by kernel_rfl) (fun a w => by kernel_rfl) hu hrest
theorem okc40 : CloOk Try.prog 40 Sc40 75 FRc40 FPc40 := ⟨cloc40 (.inl ⟨rfl, rfl, rfl⟩) restRc40, fun n => cloc40 (.inr ⟨rfl, rfl⟩) (restPc40 n)⟩
abbrev Sc8 : FL := ⟨⟨[], [.env 0 (.c (.fz (.int .u8)))], []⟩, 1, [(.ret, ⟨[], [.env 0 (.dat (.pair (.int .u64) (.pair .str (.pair .str (.pair (.sl (.int .u8)) (.pair (.sl (.pair (.int .i64) (.pair .bool (.sl (.int .u8))))) (.sl (.int .u8)))))))), .env 1 (.c (.fz (.int .u8))), .env 2 (.c (.int .i64))], []⟩)], [.cell 2 26, .cell 3 22, .cell 4 27], true⟩
noncomputable def oac8 : Array Oper := opsOf (Code.at' [1, 0] (bd Try.f8))
abbrev SMc8 : FL := ⟨⟨[(2, .ptr 1000000 0 6), (3, .ptr 1000001 0 1), (4, .ptr 1000002 0 1)], [.env 0 (.c (.fz (.int .u8))), .reg 1000000 (.cells [.int .u64, .str, .str, .fz (.int .u8), .fz (.pair (.int .i64) (.pair .bool (.sl (.int .u8)))), .fz (.int .u8)]), .reg 1000001 (.cells [.fz (.int .u8)]), .reg 1000002 (.cells [.int .i64])], [(1000000, .env 2 0), (1000001, .env 3 0), (1000002, .env 4 0)]⟩, 5, [(.ret, ⟨[], [.env 0 (.dat (.pair (.int .u64) (.pair .str (.pair .str (.pair (.sl (.int .u8)) (.pair (.sl (.pair (.int .i64) (.pair .bool (.sl (.int .u8))))) (.sl (.int .u8)))))))), .env 1 (.c (.fz (.int .u8))), .env 2 (.c (.int .i64))], []⟩)], [.cell 2 26, .cell 3 22, .cell 4 27], true⟩
noncomputable def FMc8 : List Int × (Int × ByteArray × ByteArray × List Int × List (Int × Bool × List Int) × List Int) × List Int × Int -> Option ((Int × ByteArray × ByteArray × List Int × List (Int × Bool × List Int) × List Int) × List Int × Int) := fun (b, c, s, e) =>
  (Fc41 b).bind fun (y1, y2) =>
   if (y2 != 0) = true then (FRc40 ((0, ByteArray.empty, ByteArray.empty, [], [], []), [], y2)).bind fun (c', s', e') => some (c', s', e')
   else (Fc42 (Tree.node y1.tag y1.body y1.kids)).bind fun
    | .inl (e3, _) => (FPc40 e3 (c, s, y2)).bind fun (c', s', e') => some (c', s', e')
    | .inr (y4, y5, y6, y7) =>
     (Fc43 (y4.1, (y4.2.1, (y4.2.2.1, (y5, (y6, y7)))))).bind fun y8 =>
      if (y8 == 134) = false then
       if ((y7.length : Int) != 3373) = true then (Fc44 134).bind fun (e9, _) => (FPc40 e9 ((y4.1, y4.2.1, y4.2.2.1, y5, y6, y7), s, y2)).bind fun (c', s', e') => some (c', s', e')
       else
        if (y8 != 0) = true then (Fc44 y8).bind fun (e10, _) => (FPc40 e10 ((y4.1, y4.2.1, y4.2.2.1, y5, y6, y7), s, y2)).bind fun (c', s', e') => some (c', s', e')
        else
         if (0 : Int) ≤ (0 : Int) ∧ (0 : Int) < (y1.kids.length : Int) then
          (Fc45 (Tree.node (y1.kids.getD 0 (DT.dflt .item)).tag (y1.kids.getD 0 (DT.dflt .item)).body (y1.kids.getD 0 (DT.dflt .item)).kids)).bind fun (y11, y12) => (FRc40 ((y4.1, y4.2.1, y4.2.2.1, y5, y6, y7), y11, 0)).bind fun (c', s', e') => some (c', s', e')
         else none
      else (Fc44 134).bind fun (e13, _) => (FPc40 e13 ((y4.1, y4.2.1, y4.2.2.1, y5, y6, y7), s, y2)).bind fun (c', s', e') => some (c', s', e')
noncomputable def Fc8 : List Int -> Option ((Int × ByteArray × ByteArray × List Int × List (Int × Bool × List Int) × List Int) × List Int × Int) := fun (b : List Int) => (FMc8 (b, (0, ByteArray.empty, ByteArray.empty, [], [], []), [], 0)).bind fun (c, s, e) => some (c, s, e)
theorem eqMc8 : ∀ x, exec ctab (ofL Ec45) 43 (Code.at' [1, 1] (bd Try.f8)) .none (finD ctab SMc8 [2, 3, 4] (SMc8.inp.enc x) (funEntL Sc40 false FRc40) 75 (fun n => funEntL Sc40 false (FPc40 n))) (SMc8.inp.enc x) = FMc8 x := by
 rintro ⟨b, c, s, e⟩
 kernel_rfl
theorem eqc8 : ∀ x, deferF ctab (ofL Ec45) 43 (Code.at' [0] (bd Try.f8)) .none Sc8 SMc8 [0, 2, 3, 4] 7 FMc8 x = Fc8 x := by
 intro b
 kernel_rfl
theorem callsc8 : CallsL Try.prog 8 Sc8 Fc8 :=
 defer_callsL (cx Ec45_ok) (fn := Try.f8) (fnc := Try.f40) (A := Code.at' [0] (bd Try.f8)) (rest := Code.at' [1, 1] (bd Try.f8)) (id := 1) (ops := oac8) (cc := (bd Try.f40)) (o0 := opAt oac8 0) (o1 := opAt oac8 1) (tc := 7) (pt := 75) (cs := [2, 3, 4]) (kn := [0, 2, 3, 4]) (SM := SMc8) (SC := Sc40) (annA := .none) (ann := .none) (FR := FRc40) (FPn := FPc40) (FM := FMc8)
  (by kernel_rfl) (by kernel_rfl) (by kernel_rfl) (by kernel_rfl) (by kernel_rfl) (by kernel_rfl) (by kernel_rfl) (by kernel_rfl) (by kernel_rfl) (by kernel_rfl)
  (fun a w => by kernel_rfl) (fun a w vs h => defer_run (o := opAt oac8 1) (ats := #[]) (by kernel_rfl) h)
  (by kernel_rfl) (by kernel_rfl) (by kernel_rfl) (by kernel_rfl) okc40 (by kernel_rfl) (by kernel_rfl) (by kernel_rfl) (by kernel_rfl) (by kernel_rfl) (by kernel_rfl) (by kernel_rfl)
  noCuts noCuts eqMc8 eqc8
noncomputable def Ec8 : List (Nat × Ent) := (8, funEntL Sc8 true Fc8) :: Ec45
theorem Ec8_ok : EntsOk Try.prog (ofL Ec8) := cons_ok (fn := Try.f8) (c := (bd Try.f8)) (by kernel_rfl) callsc8 Ec45_ok
abbrev Sc9 : FL := ⟨⟨[], [.env 0 (.agg [.int .u64, .str, .str, .fz (.int .u8), .fz (.pair (.int .i64) (.pair .bool (.sl (.int .u8)))), .fz (.int .u8)]), .env 1 (.agg [.int .u64, .str, .str, .fz (.int .u8), .fz (.pair (.int .i64) (.pair .bool (.sl (.int .u8)))), .fz (.int .u8)])], []⟩, 2, [(.ret, ⟨[], [.env 0 (.c (.bool))], []⟩)], [.tmp 4], false⟩
abbrev lc9_0 : Lay := ⟨[(2, .ptr 2 0 6), (3, .ptr 3 0 6)], [.env 5 (.c (.int .i64)), .reg 2 (.cells [.int .u64, .str, .str, .fz (.int .u8), .fz (.pair (.int .i64) (.pair .bool (.sl (.int .u8)))), .fz (.int .u8)]), .reg 3 (.cells [.int .u64, .str, .str, .fz (.int .u8), .fz (.pair (.int .i64) (.pair .bool (.sl (.int .u8)))), .fz (.int .u8)])], [(2, .env 2 0), (3, .env 3 0)]⟩
abbrev oc9_0 : List (AExit × Lay) := [(.ret, ⟨[], [.env 4 (.c (.bool))], []⟩), (.exit 0, ⟨[], [], []⟩)]
noncomputable def stepc9_0 : Int × (Int × ByteArray × ByteArray × (List Int) × (List (Int × (Bool × (List Int)))) × (List Int)) × (Int × ByteArray × ByteArray × (List Int) × (List (Int × (Bool × (List Int)))) × (List Int)) -> Option ((Int × (Int × ByteArray × ByteArray × (List Int) × (List (Int × (Bool × (List Int)))) × (List Int)) × (Int × ByteArray × ByteArray × (List Int) × (List (Int × (Bool × (List Int)))) × (List Int))) ⊕ ((Bool) ⊕ (Unit)))
 | (t5, r2, r3) =>
 if (decide (t5 < (r2.2.2.2.2.1.length : Int))) = true then
 if (0 : Int) ≤ t5 ∧ t5 < (r2.2.2.2.2.1.length : Int) then
 let x3 : Int := (r2.2.2.2.2.1.getD t5.toNat (DT.dflt (.pair (.int .i64) (.pair .bool (.sl (.int .u8)))))).1
 let x4 : Bool := (r2.2.2.2.2.1.getD t5.toNat (DT.dflt (.pair (.int .i64) (.pair .bool (.sl (.int .u8)))))).2.1
 let f5 : List Int := (r2.2.2.2.2.1.getD t5.toNat (DT.dflt (.pair (.int .i64) (.pair .bool (.sl (.int .u8)))))).2.2
 if (0 : Int) ≤ t5 ∧ t5 < (r3.2.2.2.2.1.length : Int) then
 let x6 : Int := (r3.2.2.2.2.1.getD t5.toNat (DT.dflt (.pair (.int .i64) (.pair .bool (.sl (.int .u8)))))).1
 let x7 : Bool := (r3.2.2.2.2.1.getD t5.toNat (DT.dflt (.pair (.int .i64) (.pair .bool (.sl (.int .u8)))))).2.1
 let f8 : List Int := (r3.2.2.2.2.1.getD t5.toNat (DT.dflt (.pair (.int .i64) (.pair .bool (.sl (.int .u8)))))).2.2
 if (x3 != x6) = false then
 if (!(x4 == x7)) = false then
 if (!((ofBytes f5).toList == (ofBytes f8).toList)) = true then
 some (.inr (.inl false))
 else
 some (.inl ((IntKind.i64.wrap (t5 + 1)), (r2.1, r2.2.1, r2.2.2.1, r2.2.2.2.1, r2.2.2.2.2.1, r2.2.2.2.2.2), (r3.1, r3.2.1, r3.2.2.1, r3.2.2.2.1, r3.2.2.2.2.1, r3.2.2.2.2.2)))
 else
 some (.inr (.inl false))
 else
 some (.inr (.inl false))
 else none
 else none
 else
 some (.inr (.inr ()))
noncomputable def Fc9 : (Int × ByteArray × ByteArray × (List Int) × (List (Int × (Bool × (List Int)))) × (List Int)) × (Int × ByteArray × ByteArray × (List Int) × (List (Int × (Bool × (List Int)))) × (List Int)) -> Option ((Bool))
 | (a0, a1) =>
 if (a0.1 != a1.1) = false then
 if (!(a0.2.1.toList == a1.2.1.toList)) = false then
 if (!(a0.2.2.1.toList == a1.2.2.1.toList)) = false then
 let x1 : Bool := (!((ofBytes a0.2.2.2.1).toList == (ofBytes a1.2.2.2.1).toList))
 if x1 = false then
 let x2 : Bool := (!((ofBytes a0.2.2.2.2.2).toList == (ofBytes a1.2.2.2.2.2).toList))
 if x2 = false then
 if ((a0.2.2.2.2.1.length : Int) != (a1.2.2.2.2.1.length : Int)) = true then
 some false
 else
 (loopO stepc9_0 (0, (a0.1, a0.2.1, a0.2.2.1, a0.2.2.2.1, a0.2.2.2.2.1, a0.2.2.2.2.2), (a1.1, a1.2.1, a1.2.2.1, a1.2.2.2.1, a1.2.2.2.2.1, a1.2.2.2.2.2))).bind fun
 | (.inl z9) =>
 some z9
 | (.inr _) =>
 some true
 else
 some false
 else
 some false
 else
 some false
 else
 some false
 else
 some false
noncomputable def annc9 : Ann := (.seq .none (.seq .none (.seq (.seq .none (.seq (.cut (cutEnt lc9_0 oc9_0 (loopO (stepc9_0)))) .none)) .none)))
theorem okc9_0 : LOk Try.prog 92 (cutEnt lc9_0 oc9_0 (loopO stepc9_0)) (Code.at' [1, 1, 0, 1, 0] (bd Try.f9)) := by
 have e : Code.at' [1, 1, 0, 1, 0] (bd Try.f9) = .loop (Code.at' [1, 1, 0, 1, 0, 0] (bd Try.f9)) := by kernel_rfl
 rw [e]
 refine loop_ok (ann := .none) (cx Ec8_ok) 92 rfl rfl (annOk_of_cuts nc) (by rintro ⟨t5, r2, r3⟩; kernel_rfl)
theorem callsc9 : CallsL Try.prog 9 Sc9 Fc9 := by
 refine fcalls (fn := Try.f9) (c := (bd Try.f9)) (ann := annc9) (cx Ec8_ok) (by kernel_rfl) (annOk_of_cuts ?_) (by rintro ⟨a0, a1⟩; kernel_rfl)
 exact cut1 (by kernel_rfl) okc9_0
noncomputable def Ec9 : List (Nat × Ent) := (9, (funEntL Sc9 true Fc9)) :: Ec8
theorem Ec9_ok : EntsOk Try.prog (ofL Ec9) := cons_ok (fn := Try.f9) (c := (bd Try.f9)) (by kernel_rfl) callsc9 Ec8_ok
abbrev Sc10 : FL := ⟨⟨[], [.env 0 (.c (.fz (.int .u8))), .env 1 (.c (.fz (.int .u8)))], []⟩, 2, [(.ret, ⟨[], [.env 0 (.c (.bool))], []⟩)], [.tmp 4], false⟩
abbrev lc10_0 : Lay := ⟨[], [.env 0 (.c (.fz (.int .u8))), .env 1 (.c (.fz (.int .u8))), .env 5 (.c (.int .i64))], []⟩
abbrev oc10_0 : List (AExit × Lay) := [(.ret, ⟨[], [.env 4 (.c (.bool))], []⟩), (.exit 0, ⟨[], [], []⟩)]
noncomputable def stepc10_0 : (List Int) × (List Int) × Int -> Option (((List Int) × (List Int) × Int) ⊕ ((Bool) ⊕ (Unit)))
 | (t0, t1, t5) =>
 if (decide (t5 < (t0.length : Int))) = true then
 if (0 : Int) ≤ t5 ∧ t5 < (t0.length : Int) then
 if (0 : Int) ≤ t5 ∧ t5 < (t1.length : Int) then
 if ((t0.getD t5.toNat 0) != (t1.getD t5.toNat 0)) = true then
 some (.inr (.inl false))
 else
 some (.inl (t0, t1, (IntKind.i64.wrap (t5 + 1))))
 else none
 else none
 else
 some (.inr (.inr ()))
noncomputable def Fc10 : (List Int) × (List Int) -> Option ((Bool))
 | (a0, a1) =>
 if ((a0.length : Int) != (a1.length : Int)) = true then
 some false
 else
 (loopO stepc10_0 (a0, a1, 0)).bind fun
 | (.inl z1) =>
 some z1
 | (.inr _) =>
 some true
noncomputable def annc10 : Ann := (.seq .none (.seq .none (.seq (.seq .none (.seq (.cut (cutEnt lc10_0 oc10_0 (loopO (stepc10_0)))) .none)) .none)))
theorem okc10_0 : LOk Try.prog 26 (cutEnt lc10_0 oc10_0 (loopO stepc10_0)) (Code.at' [1, 1, 0, 1, 0] (bd Try.f10)) := by
 have e : Code.at' [1, 1, 0, 1, 0] (bd Try.f10) = .loop (Code.at' [1, 1, 0, 1, 0, 0] (bd Try.f10)) := by kernel_rfl
 rw [e]
 refine loop_ok (ann := .none) (cx Ec9_ok) 26 rfl rfl (annOk_of_cuts nc) (by rintro ⟨t0, t1, t5⟩; kernel_rfl)
theorem callsc10 : CallsL Try.prog 10 Sc10 Fc10 := by
 refine fcalls (fn := Try.f10) (c := (bd Try.f10)) (ann := annc10) (cx Ec9_ok) (by kernel_rfl) (annOk_of_cuts ?_) (by rintro ⟨a0, a1⟩; kernel_rfl)
 exact cut1 (by kernel_rfl) okc10_0
noncomputable def Ec10 : List (Nat × Ent) := (10, (funEntL Sc10 true Fc10)) :: Ec9
theorem Ec10_ok : EntsOk Try.prog (ofL Ec10) := cons_ok (fn := Try.f10) (c := (bd Try.f10)) (by kernel_rfl) callsc10 Ec9_ok
abbrev Sc83 : FL := ⟨⟨[], [.env 0 (.c (.int .u64))], []⟩, 1, [(.ret, ⟨[], [.env 0 (.dat .item)], []⟩)], [.cell 2 58], true⟩
abbrev lc83_0 : Lay := ⟨[(2, .ptr 2 0 3), (3, .full 6)], [.env 0 (.c (.int .u64)), .reg 2 (.cells [.int .u8, .nils, .nils]), .reg 6 (.row 5 .u8)], [(2, .env 2 0), (6, .env 3 0)]⟩
abbrev oc83_0 : List (AExit × Lay) := [(.exit 0, ⟨[(2, .ptr 2 0 3), (3, .full 6)], [.reg 2 (.cells [.int .u8, .nils, .nils]), .reg 6 (.row 5 .u8)], [(2, .env 2 0), (6, .env 3 0)]⟩)]
noncomputable def stepc83_0 : Int × (Int × Unit × Unit) × List Int -> Option ((Int × (Int × Unit × Unit) × List Int) ⊕ (((Int × Unit × Unit) × List Int)))
 | (t0, r2, r6) =>
 if (decide (t0 > 0)) = true then
 if okBytes (r6.length + ((List.replicate 1 (0 : Int)).set 0 (IntKind.u8.wrap t0)).length) 1 then
 let f1 : List Int := (r6 ++ ((List.replicate 1 (0 : Int)).set 0 (IntKind.u8.wrap t0)))
 some (.inl ((shrI .u64 t0 8), (r2.1, (), ()), f1))
 else none
 else
 some (.inr ((r2.1, (), ()), r6))
noncomputable def Fc83 : Int -> Option ((Tree))
 | a0 =>
 (loopO stepc83_0 ((shrI .u64 a0 8), (0, (), ()), ((List.replicate 1 (0 : Int)).set 0 (IntKind.u8.wrap a0)))).bind fun (z2, z3) =>
 if (0 : Int) ≤ (IntKind.i64.wrap ((z3.length : Int) - 1)) ∧ (IntKind.i64.wrap ((z3.length : Int) - 1)) < (z3.length : Int) then
 let x4 : Bool := (decide ((z3.getD (IntKind.i64.wrap ((z3.length : Int) - 1)).toNat 0) ≥ 128))
 if x4 = true then
 if okBytes (z3.length + ((List.replicate 1 (0 : Int)).set 0 0).length) 1 then
 (Fc107 ((z3 ++ ((List.replicate 1 (0 : Int)).set 0 0)), (0, (z3 ++ ((List.replicate 1 (0 : Int)).set 0 0)).length))).bind fun y5 =>
 some (Tree.node 2 y5 ([] : List Tree))
 else none
 else
 (Fc107 (z3, (0, z3.length))).bind fun y6 =>
 some (Tree.node 2 y6 ([] : List Tree))
 else none
noncomputable def annc83 : Ann := (.seq .none (.seq .none (.seq (.seq .none (.seq (.cut (cutEnt lc83_0 oc83_0 (loopO (stepc83_0)))) .none)) .none)))
theorem okc83_0 : LOk Try.prog 32 (cutEnt lc83_0 oc83_0 (loopO stepc83_0)) (Code.at' [1, 1, 0, 1, 0] (bd Try.f83)) := by
 have e : Code.at' [1, 1, 0, 1, 0] (bd Try.f83) = .loop (Code.at' [1, 1, 0, 1, 0, 0] (bd Try.f83)) := by kernel_rfl
 rw [e]
 refine loop_ok (ann := .none) (cx Ec10_ok) 32 rfl rfl (annOk_of_cuts nc) (by rintro ⟨t0, r2, r6⟩; kernel_rfl)
theorem callsc83 : CallsL Try.prog 83 Sc83 Fc83 := by
 refine fcalls (fn := Try.f83) (c := (bd Try.f83)) (ann := annc83) (cx Ec10_ok) (by kernel_rfl) (annOk_of_cuts ?_) (by intro x; kernel_rfl)
 exact cut1 (by kernel_rfl) okc83_0
noncomputable def Ec83 : List (Nat × Ent) := (83, (funEntL Sc83 true Fc83)) :: Ec10
theorem Ec83_ok : EntsOk Try.prog (ofL Ec83) := cons_ok (fn := Try.f83) (c := (bd Try.f83)) (by kernel_rfl) callsc83 Ec10_ok
abbrev Sc84 : FL := ⟨⟨[], [.env 0 (.c (.str))], []⟩, 1, [(.ret, ⟨[], [.env 0 (.dat .item)], []⟩)], [.cell 2 58], true⟩
noncomputable def Fc84 : ByteArray -> Option ((Tree))
 | a0 =>
 let f1 : List Int := (((((List.replicate 4 (0 : Int)).set 0 2).set 1 5).set 2 4).set 3 3)
 (Fc85 f1).bind fun y2 =>
 (Fc87 (12, a0)).bind fun y3 =>
 let f4 : List Tree := ([(Tree.node y2.tag y2.body y2.kids), (Tree.node y3.tag y3.body y3.kids)] : List Tree)
 (Fc47 (48, f4)).bind fun (y5, y6) =>
 (Fc47 (49, ([(Tree.node y5.1 ([] : List Int) y6)] : List Tree))).bind fun (y7, y8) =>
 (Fc47 (48, ([(Tree.node y7.1 ([] : List Int) y8)] : List Tree))).bind fun (y9, y10) =>
 some (Tree.node y9.1 ([] : List Int) y10)
theorem callsc84 : CallsL Try.prog 84 Sc84 Fc84 := by
 refine fcalls (fn := Try.f84) (c := (bd Try.f84)) (ann := .none) (cx Ec83_ok) (by kernel_rfl) (annOk_of_cuts nc) (by intro x; kernel_rfl)
noncomputable def Ec84 : List (Nat × Ent) := (84, (funEntL Sc84 true Fc84)) :: Ec83
theorem Ec84_ok : EntsOk Try.prog (ofL Ec84) := cons_ok (fn := Try.f84) (c := (bd Try.f84)) (by kernel_rfl) callsc84 Ec83_ok
abbrev Sc49 : FL := ⟨⟨[], [.env 0 (.c (.fz (.int .u8)))], []⟩, 1, [(.ret, ⟨[], [.env 0 (.dat .item)], []⟩)], [.cell 2 58], true⟩
noncomputable def Fc49 : (List Int) -> Option ((Tree))
 | a0 =>
 if okBytes (((List.replicate 1 (0 : Int)).set 0 0).length + a0.length) 1 then
 some (Tree.node 3 (((List.replicate 1 (0 : Int)).set 0 0) ++ a0) ([] : List Tree))
 else none
theorem callsc49 : CallsL Try.prog 49 Sc49 Fc49 := by
 refine fcalls (fn := Try.f49) (c := (bd Try.f49)) (ann := .none) (cx Ec84_ok) (by kernel_rfl) (annOk_of_cuts nc) (by intro x; kernel_rfl)
noncomputable def Ec49 : List (Nat × Ent) := (49, (funEntL Sc49 true Fc49)) :: Ec84
theorem Ec49_ok : EntsOk Try.prog (ofL Ec49) := cons_ok (fn := Try.f49) (c := (bd Try.f49)) (by kernel_rfl) callsc49 Ec84_ok
abbrev Sc86 : FL := ⟨⟨[], [.env 0 (.c (.bool))], []⟩, 1, [(.ret, ⟨[], [.env 0 (.dat .item)], []⟩)], [.cell 2 58], true⟩
noncomputable def Fc86 : Bool -> Option ((Tree))
 | a0 =>
 if a0 = true then
 some (Tree.node 1 ((List.replicate 1 (0 : Int)).set 0 255) ([] : List Tree))
 else
 some (Tree.node 1 ((List.replicate 1 (0 : Int)).set 0 0) ([] : List Tree))
theorem callsc86 : CallsL Try.prog 86 Sc86 Fc86 := by
 refine fcalls (fn := Try.f86) (c := (bd Try.f86)) (ann := .none) (cx Ec49_ok) (by kernel_rfl) (annOk_of_cuts nc) (by intro x; kernel_rfl)
noncomputable def Ec86 : List (Nat × Ent) := (86, (funEntL Sc86 true Fc86)) :: Ec49
theorem Ec86_ok : EntsOk Try.prog (ofL Ec86) := cons_ok (fn := Try.f86) (c := (bd Try.f86)) (by kernel_rfl) callsc86 Ec49_ok
abbrev Sc46 : FL := ⟨⟨[], [.env 0 (.c (.fzp (.pair (.int .u64) (.pair .str (.pair .str (.pair (.sl (.int .u8)) (.pair (.sl (.pair (.int .i64) (.pair .bool (.sl (.int .u8))))) (.sl (.int .u8)))))))))], []⟩, 1, [(.ret, ⟨[], [.env 0 (.dat .item)], []⟩)], [.cell 2 58], true⟩
abbrev lc46_0 : Lay := ⟨[(2, .ptr 2 0 3), (3, .ptr 3 0 3), (4, .full 500256)], [.env 48 (.c (.fz (.pair (.int .i64) (.pair .bool (.sl (.int .u8)))))), .env 49 (.c (.int .i64)), .env 50 (.c (.int .i64)), .reg 500256 (.rowd 58 .item), .reg 2 (.cells [.int .u8, .nils, .nils]), .reg 3 (.cells [.int .u8, .nils, .full 36]), .reg 36 (.rowd 58 .item)], [(2, .env 2 0), (3, .env 3 0), (500256, .env 4 0), (36, .reg 3 2)]⟩
abbrev oc46_0 : List (AExit × Lay) := [(.exit 0, ⟨[(2, .ptr 2 0 3), (3, .ptr 3 0 3), (4, .full 500256)], [.reg 2 (.cells [.int .u8, .nils, .nils]), .reg 3 (.cells [.int .u8, .nils, .full 36]), .reg 500256 (.rowd 58 .item), .reg 36 (.rowd 58 .item)], [(2, .env 2 0), (3, .env 3 0), (500256, .env 4 0), (36, .reg 3 2)]⟩)]
noncomputable def stepc46_0 : (List (Int × (Bool × (List Int)))) × Int × Int × List Tree × (Int × Unit × Unit) × (Int × Unit × Unit) × List Tree -> Option (((List (Int × (Bool × (List Int)))) × Int × Int × List Tree × (Int × Unit × Unit) × (Int × Unit × Unit) × List Tree) ⊕ (((Int × Unit × Unit) × (Int × Unit × Unit) × List Tree × List Tree)))
 | (t48, t49, t50, r500256, r2, r3, r36) =>
 if (decide (t50 < t49)) = true then
 if (0 : Int) ≤ t50 ∧ t50 < (t48.length : Int) then
 let x17 : Int := (t48.getD t50.toNat (DT.dflt (.pair (.int .i64) (.pair .bool (.sl (.int .u8)))))).1
 let x18 : Bool := (t48.getD t50.toNat (DT.dflt (.pair (.int .i64) (.pair .bool (.sl (.int .u8)))))).2.1
 let f19 : List Int := (t48.getD t50.toNat (DT.dflt (.pair (.int .i64) (.pair .bool (.sl (.int .u8)))))).2.2
 let f20 : List Int := ((((((((((List.replicate 9 (0 : Int)).set 0 1).set 1 3).set 2 6).set 3 1).set 4 4).set 5 1).set 6 4128).set 7 2100).set 8 (IntKind.u64.wrap x17))
 (Fc85 f20).bind fun y21 =>
 (Fc47 (48, ([(Tree.node y21.tag y21.body y21.kids)] : List Tree))).bind fun (y22, y23) =>
 if x18 = true then
 (Fc86 true).bind fun y24 =>
 if okBytes (y23.length + ([(Tree.node y24.tag y24.body y24.kids)] : List Tree).length) 56 then
 let f25 : List Tree := (y23 ++ ([(Tree.node y24.tag y24.body y24.kids)] : List Tree))
 (Fc87 (4, (ofBytes f19))).bind fun y26 =>
 if okBytes (f25.length + ([(Tree.node y26.tag y26.body y26.kids)] : List Tree).length) 56 then
 let f27 : List Tree := (f25 ++ ([(Tree.node y26.tag y26.body y26.kids)] : List Tree))
 (Fc47 (48, f27)).bind fun (y28, y29) =>
 if okBytes (r500256.length + ([(Tree.node y28.1 ([] : List Int) y29)] : List Tree).length) 56 then
 let f30 : List Tree := (r500256 ++ ([(Tree.node y28.1 ([] : List Int) y29)] : List Tree))
 some (.inl (t48, t49, (IntKind.i64.wrap (t50 + 1)), f30, (r2.1, (), ()), (r3.1, (), ()), r36))
 else none
 else none
 else none
 else
 (Fc87 (4, (ofBytes f19))).bind fun y31 =>
 if okBytes (y23.length + ([(Tree.node y31.tag y31.body y31.kids)] : List Tree).length) 56 then
 let f32 : List Tree := (y23 ++ ([(Tree.node y31.tag y31.body y31.kids)] : List Tree))
 (Fc47 (48, f32)).bind fun (y33, y34) =>
 if okBytes (r500256.length + ([(Tree.node y33.1 ([] : List Int) y34)] : List Tree).length) 56 then
 let f35 : List Tree := (r500256 ++ ([(Tree.node y33.1 ([] : List Int) y34)] : List Tree))
 some (.inl (t48, t49, (IntKind.i64.wrap (t50 + 1)), f35, (r2.1, (), ()), (r3.1, (), ()), r36))
 else none
 else none
 else none
 else
 some (.inr ((r2.1, (), ()), (r3.1, (), ()), r500256, r36))
noncomputable def Fc46 : (Int × (ByteArray × (ByteArray × ((List Int) × ((List (Int × (Bool × (List Int)))) × (List Int)))))) -> Option ((Tree))
 | a0 =>
 (Fc83 2).bind fun y1 =>
 (Fc47 (160, ([(Tree.node y1.tag y1.body y1.kids)] : List Tree))).bind fun (y2, y3) =>
 (Fc83 a0.1).bind fun y4 =>
 (Fc48 ()).bind fun y5 =>
 (Fc84 a0.2.1).bind fun y6 =>
 (Fc75 ()).bind fun y7 =>
 (Fc84 a0.2.2.1).bind fun y8 =>
 (Fc48 ()).bind fun y9 =>
 (Fc49 a0.2.2.2.1).bind fun y10 =>
 let f11 : List Tree := ([(Tree.node y9.tag y9.body y9.kids), (Tree.node y10.tag y10.body y10.kids)] : List Tree)
 (Fc47 (48, f11)).bind fun (y12, y13) =>
 let f14 : List Tree := ([(Tree.node y2.1 ([] : List Int) y3), (Tree.node y4.tag y4.body y4.kids), (Tree.node y5.tag y5.body y5.kids), (Tree.node y6.tag y6.body y6.kids), (Tree.node y7.tag y7.body y7.kids), (Tree.node y8.tag y8.body y8.kids), (Tree.node y12.1 ([] : List Int) y13)] : List Tree)
 (Fc47 (48, f14)).bind fun (y15, y16) =>
 if ((a0.2.2.2.2.1.length : Int) == 0) = true then
 some (Tree.node y15.1 ([] : List Int) y16)
 else
 (loopO stepc46_0 (a0.2.2.2.2.1, (a0.2.2.2.2.1.length : Int), 0, ([] : List Tree), (0, (), ()), (y15.1, (), ()), y16)).bind fun (z36, z37, z38, z39) =>
 (Fc47 (48, z38)).bind fun (y40, y41) =>
 (Fc47 (163, ([(Tree.node y40.1 ([] : List Int) y41)] : List Tree))).bind fun (y42, y43) =>
 if okBytes (z39.length + ([(Tree.node y42.1 ([] : List Int) y43)] : List Tree).length) 56 then
 let f44 : List Tree := (z39 ++ ([(Tree.node y42.1 ([] : List Int) y43)] : List Tree))
 some (Tree.node z37.1 ([] : List Int) f44)
 else none
noncomputable def annc46 : Ann := (.seq .none (.seq .none (.seq .none (.seq .none (.seq (.seq .none (.seq (.cut (cutEnt lc46_0 oc46_0 (loopO (stepc46_0)))) .none)) .none)))))
theorem okc46_0 : LOk Try.prog 92 (cutEnt lc46_0 oc46_0 (loopO stepc46_0)) (Code.at' [1, 1, 1, 1, 0, 1, 0] (bd Try.f46)) := by
 have e : Code.at' [1, 1, 1, 1, 0, 1, 0] (bd Try.f46) = .loop (Code.at' [1, 1, 1, 1, 0, 1, 0, 0] (bd Try.f46)) := by kernel_rfl
 rw [e]
 refine loop_ok (ann := .none) (cx Ec86_ok) 92 rfl rfl (annOk_of_cuts nc) (by rintro ⟨t48, t49, t50, r500256, r2, r3, r36⟩; kernel_rfl)
theorem callsc46 : CallsL Try.prog 46 Sc46 Fc46 := by
 refine fcalls (fn := Try.f46) (c := (bd Try.f46)) (ann := annc46) (cx Ec86_ok) (by kernel_rfl) (annOk_of_cuts ?_) (by intro x; kernel_rfl)
 exact cut1 (by kernel_rfl) okc46_0
noncomputable def Ec46 : List (Nat × Ent) := (46, (funEntL Sc46 true Fc46)) :: Ec86
theorem Ec46_ok : EntsOk Try.prog (ofL Ec46) := cons_ok (fn := Try.f46) (c := (bd Try.f46)) (by kernel_rfl) callsc46 Ec86_ok
abbrev Sc16 : FL := ⟨⟨[], [.env 0 (.agg [.int .u64, .str, .str, .fz (.int .u8), .fz (.pair (.int .i64) (.pair .bool (.sl (.int .u8)))), .fz (.int .u8)])], []⟩, 1, [(.ret, ⟨[], [.env 0 (.c (.fz (.int .u8))), .env 1 (.c (.int .i64))], []⟩)], [.tmp 2, .tmp 3], true⟩
abbrev lc16_0 : Lay := ⟨[], [.env 0 (.agg [.int .u64, .str, .str, .fz (.int .u8), .fz (.pair (.int .i64) (.pair .bool (.sl (.int .u8)))), .fz (.int .u8)])], []⟩
abbrev oc16_0 : List (AExit × Lay) := [(.normal, ⟨[], [.env 1 (.c (.fzp (.pair (.int .u64) (.pair .str (.pair .str (.pair (.sl (.int .u8)) (.pair (.sl (.pair (.int .i64) (.pair .bool (.sl (.int .u8))))) (.sl (.int .u8)))))))))], []⟩)]
noncomputable def stepc16_0 : Int × ByteArray × ByteArray × (List Int) × (List (Int × (Bool × (List Int)))) × (List Int) -> Option (((Int × (ByteArray × (ByteArray × ((List Int) × ((List (Int × (Bool × (List Int)))) × (List Int))))))))
 | t0 =>
 some (t0.1, (t0.2.1, (t0.2.2.1, (t0.2.2.2.1, (t0.2.2.2.2.1, t0.2.2.2.2.2)))))
noncomputable def Fc16 : Int × ByteArray × ByteArray × (List Int) × (List (Int × (Bool × (List Int)))) × (List Int) -> Option (((List Int) × Int))
 | a0 =>
 (stepc16_0 (a0.1, a0.2.1, a0.2.2.1, a0.2.2.2.1, a0.2.2.2.2.1, a0.2.2.2.2.2)).bind fun z1 =>
 (Fc43 (z1.1, (z1.2.1, (z1.2.2.1, (z1.2.2.2.1, (z1.2.2.2.2.1, z1.2.2.2.2.2)))))).bind fun y2 =>
 if (y2 == 134) = false then
 if ((z1.2.2.2.2.2.length : Int) != 3373) = true then
 some (([] : List Int), 134)
 else
 if (y2 != 0) = true then
 some (([] : List Int), y2)
 else
 (Fc46 (z1.1, (z1.2.1, (z1.2.2.1, (z1.2.2.2.1, (z1.2.2.2.2.1, z1.2.2.2.2.2)))))).bind fun y3 =>
 (Fc48 ()).bind fun y4 =>
 (Fc49 z1.2.2.2.2.2).bind fun y5 =>
 let f6 : List Tree := ([(Tree.node y3.tag y3.body y3.kids), (Tree.node y4.tag y4.body y4.kids), (Tree.node y5.tag y5.body y5.kids)] : List Tree)
 (Fc47 (48, f6)).bind fun (y7, y8) =>
 (Fc45 (Tree.node y7.1 ([] : List Int) y8)).bind fun (y9, y10) =>
 some (y9, y10)
 else
 some (([] : List Int), 134)
noncomputable def annc16 : Ann := (.seq (.cut (cutEnt lc16_0 oc16_0 stepc16_0)) .none)
theorem okc16_0 : LOk Try.prog 27 (cutEnt lc16_0 oc16_0 stepc16_0) (Code.at' [0] (bd Try.f16)) := by
 refine cut_ok (ann := .none) (cx Ec46_ok) 27 rfl rfl (annOk_of_cuts nc) (by intro s; kernel_rfl)
theorem callsc16 : CallsL Try.prog 16 Sc16 Fc16 := by
 refine fcalls (fn := Try.f16) (c := (bd Try.f16)) (ann := annc16) (cx Ec46_ok) (by kernel_rfl) (annOk_of_cuts ?_) (by intro x; kernel_rfl)
 exact cut1 (by kernel_rfl) okc16_0
noncomputable def Ec16 : List (Nat × Ent) := (16, (funEntL Sc16 true Fc16)) :: Ec46
theorem Ec16_ok : EntsOk Try.prog (ofL Ec16) := cons_ok (fn := Try.f16) (c := (bd Try.f16)) (by kernel_rfl) callsc16 Ec46_ok
abbrev Sc12 : FL := ⟨⟨[], [], []⟩, 0, [(.ret, ⟨[], [.env 0 (.c (.bool))], []⟩)], [.tmp 0], false⟩
noncomputable def Fc12 : Unit -> Option ((Bool))
 | _ =>
 if 0 ≤ (2017 : Int) ∧ (2017 : Int) ≤ 2017 ∧ okBytes 2017 1 then
 if 0 ≤ (3373 : Int) ∧ (3373 : Int) ≤ 3373 ∧ okBytes 3373 1 then
 (Fc16 (1, cstr3, cstr4, (List.replicate 2017 (0 : Int)), ([] : List (Int × (Bool × (List Int)))), (List.replicate 3373 (0 : Int)))).bind fun (y1, y2) =>
 (Fc8 y1).bind fun (y3, y4, y5) =>
 (Fc8 (((List.replicate 2 (0 : Int)).set 0 48).set 1 0)).bind fun (y6, y7, y8) =>
 if (y2 == 0) = true then
 if (y5 == 0) = true then
 if (y3.2.2.1.toList == cstr4.toList) = true then
 some (y8 == 131)
 else
 some false
 else
 some false
 else
 some false
 else none
 else none
theorem callsc12 : CallsL Try.prog 12 Sc12 Fc12 := by
 refine fcalls (fn := Try.f12) (c := (bd Try.f12)) (ann := .none) (cx Ec16_ok) (by kernel_rfl) (annOk_of_cuts nc) (by intro x; kernel_rfl)
noncomputable def Ec12 : List (Nat × Ent) := (12, (funEntL Sc12 true Fc12)) :: Ec16
theorem Ec12_ok : EntsOk Try.prog (ofL Ec12) := cons_ok (fn := Try.f12) (c := (bd Try.f12)) (by kernel_rfl) callsc12 Ec16_ok
abbrev Sc68o : FL := ⟨⟨[(0, .ptr 1000000 0 1)], [.reg 1000000 (.cells [.fz (.int .u8)]), .env 1 (.c (.int .i64))], [(1000000, .env 0 0)]⟩, 2, [(.ret, ⟨[], [.env 0 (.agg [.int .u8, .full 1, .full 2]), .reg 1 (.row 5 .u8), .reg 2 (.deep 58 5), .reg 1000000 (.cells [.fz (.int .u8)])], [(1, .env 0 1), (2, .env 0 2)]⟩), (.panic 125 0, ⟨[], [], []⟩)], [.cell 4 58], true⟩
noncomputable def cc68o (G : Sc68o.inT -> Option Sc68o.outT) (hG : CallsL Try.prog 68 Sc68o G) : Ctx Try.prog := ⟨ctab, ofL ((68, funEntL Sc68o true G) :: Ec12), ctabOk, .cons (fun_okL (fn := Try.f68) (c := (bd Try.f68)) (by kernel_rfl) (by kernel_rfl) (by kernel_rfl) (by kernel_rfl) hG) Ec12_ok, cdep, cord⟩
abbrev lc68o_0 : Lay := ⟨[(4, .ptr 4 0 3), (5, .ptr 5 0 3), (7, .ptr 33 0 1)], [.env 1 (.c (.int .i64)), .reg 4 (.cells [.int .u8, .nils, .nils]), .reg 5 (.cells [.int .u8, .nils, .full 600322]), .reg 600322 (.deep 58 5), .reg 33 (.cells [.fz (.int .u8)]), .reg 1000000 (.cells [.fz (.int .u8)])], [(4, .env 4 0), (5, .env 5 0), (33, .env 7 0), (600322, .reg 5 2)]⟩
abbrev oc68o_0 : List (AExit × Lay) := [(.panic 125 0, ⟨[], [], []⟩), (.exit 0, ⟨[(4, .ptr 4 0 3), (5, .ptr 5 0 3)], [.reg 4 (.cells [.int .u8, .nils, .nils]), .reg 5 (.cells [.int .u8, .nils, .full 600322]), .reg 600322 (.deep 58 5), .reg 1000000 (.cells [.fz (.int .u8)])], [(4, .env 4 0), (5, .env 5 0), (600322, .reg 5 2)]⟩)]
noncomputable def stepc68o_0 (G : (List Int) × Int -> Option (((Int × Unit × Unit) × List Int × List Tree × (List Int)) ⊕ (Int × (Unit)))) : Int × (Int × Unit × Unit) × (Int × Unit × Unit) × List Tree × (List Int) × (List Int) -> Option ((Int × (Int × Unit × Unit) × (Int × Unit × Unit) × List Tree × (List Int) × (List Int)) ⊕ ((Int × (Unit)) ⊕ ((Int × Unit × Unit) × (Int × Unit × Unit) × List Tree × (List Int))))
 | (t1, r4, r5, r600322, r33, r1000000) =>
 if (decide ((r33.length : Int) > 0)) = true then
 (G (r33, (IntKind.i64.wrap (t1 + 1)))).bind fun
 | (.inl (y14, y15, y16, y17)) =>
 if okBytes (r600322.length + ([Tree.node y14.1 y15 y16] : List Tree).length) 56 then
 some (.inl (t1, (r4.1, (), ()), (r5.1, (), ()), (r600322 ++ ([Tree.node y14.1 y15 y16] : List Tree)), y17, r1000000))
 else none
 | (.inr (e18, _)) =>
 some (.inr (.inl (e18, ())))
 else
 some (.inr (.inr ((r4.1, (), ()), (r5.1, (), ()), r600322, r1000000)))
noncomputable def annc68o_0 (G : (List Int) × Int -> Option (((Int × Unit × Unit) × List Int × List Tree × (List Int)) ⊕ (Int × (Unit)))) : Ann := .none
noncomputable def Bc68o (G : (List Int) × Int -> Option (((Int × Unit × Unit) × List Int × List Tree × (List Int)) ⊕ (Int × (Unit)))) : (List Int) × Int -> Option (((Int × Unit × Unit) × List Int × List Tree × (List Int)) ⊕ (Int × (Unit)))
 | (io, a1) =>
 if (decide (a1 > 16)) = true then
 (Fc69 125).bind fun (e1, _) =>
 some (.inr (e1, ()))
 else
 (Fc96 io).bind fun
 | (.inl (e2, _)) =>
 some (.inr (e2, ()))
 | (.inr (y3, y4)) =>
 if ((bitsAnd .u8 y3 31) == 31) = true then
 (Fc69 123).bind fun (e5, _) =>
 some (.inr (e5, ()))
 else
 (Fc98 y4).bind fun
 | (.inl (e6, _)) =>
 some (.inr (e6, ()))
 | (.inr (y7, y8)) =>
 (Fc97 (y8, y7)).bind fun
 | (.inl (e9, _)) =>
 some (.inr (e9, ()))
 | (.inr (y10, y11)) =>
 (Fc99 y3).bind fun y12 =>
 if (!y12) = true then
 (Fc50 y10).bind fun y13 =>
 some (.inl ((y3, (), ()), y13, ([] : List Tree), y11))
 else
 (loopO (stepc68o_0 G) (a1, (0, (), ()), (y3, (), ()), ([] : List Tree), y10, y11)).bind fun
 | (.inl (e19, _)) =>
 some (.inr (e19, ()))
 | (.inr (z20, z21, z22, z23)) =>
 some (.inl ((z21.1, (), ()), ([] : List Int), z22, z23))
noncomputable def annc68o (G : (List Int) × Int -> Option (((Int × Unit × Unit) × List Int × List Tree × (List Int)) ⊕ (Int × (Unit)))) : Ann := (.seq .none (.seq .none (.seq .none (.seq .none (.seq .none (.seq .none (.seq (.seq .none (.seq (.cut (cutEnt lc68o_0 oc68o_0 (loopO (stepc68o_0 G)))) .none)) .none)))))))
theorem okc68o_0 (G : Sc68o.inT -> Option Sc68o.outT) (hG : CallsL Try.prog 68 Sc68o G) : LOk Try.prog 50 (cutEnt lc68o_0 oc68o_0 (loopO (stepc68o_0 G))) (Code.at' [1, 1, 1, 1, 1, 1, 0, 1, 0] (bd Try.f68)) := by
 have e : Code.at' [1, 1, 1, 1, 1, 1, 0, 1, 0] (bd Try.f68) = .loop (Code.at' [1, 1, 1, 1, 1, 1, 0, 1, 0, 0] (bd Try.f68)) := by kernel_rfl
 rw [e]
 refine loop_ok (ann := (annc68o_0 G)) (cc68o G hG) 50 rfl rfl (annOk_of_cuts nc) (by rintro ⟨t1, r4, r5, r600322, r33, r1000000⟩; kernel_rfl)
theorem bcallsc68o (G : Sc68o.inT -> Option Sc68o.outT) (hG : CallsL Try.prog 68 Sc68o G) : CallsL Try.prog 68 Sc68o (Bc68o G) := by
 refine fcalls (fn := Try.f68) (c := (bd Try.f68)) (ann := (annc68o G)) (cc68o G hG) (by kernel_rfl) (annOk_of_cuts ?_) (by rintro ⟨io, a1⟩; kernel_rfl)
 exact cut1 (by kernel_rfl) (okc68o_0 G hG)
noncomputable def FRc68o : Nat -> (List Int) × Int -> Option (((Int × Unit × Unit) × List Int × List Tree × (List Int)) ⊕ (Int × (Unit)))
 | 0 => fun _ => none
 | k + 1 => Bc68o (FRc68o k)
theorem rcallsc68o : ∀ k, CallsL Try.prog 68 Sc68o (FRc68o k)
 | 0 => fun _ _ _ _ _ _ _ _ h => by cases h
 | k + 1 => bcallsc68o (FRc68o k) (rcallsc68o k)
noncomputable def Fc68o (x : (List Int) × Int) : Option (((Int × Unit × Unit) × List Int × List Tree × (List Int)) ⊕ (Int × (Unit))) := FRc68o (20) x
theorem callsc68o : CallsL Try.prog 68 Sc68o Fc68o := fun us x y w fp β h1 h2 h3 h4 => rcallsc68o _ us x y w fp β h1 h2 h3 h4
noncomputable def Ec68o : List (Nat × Ent) := (68, (funEntL Sc68o true Fc68o)) :: Ec12
theorem Ec68o_ok : EntsOk Try.prog (ofL Ec68o) := cons_ok (fn := Try.f68) (c := (bd Try.f68)) (by kernel_rfl) callsc68o Ec12_ok
noncomputable def oac66o : Array Oper := opsOf (Code.at' [0] (bd Try.f66))
abbrev Sc66o : FL := ⟨⟨[(0, .ptr 1000000 0 1), (1, .ptr 1000001 0 3)], [.reg 1000000 (.cells [.int .i64]), .reg 1000001 (.cells [.int .u8, .full 1000002, .full 1000003]), .reg 1000002 (.row 5 .u8), .reg 1000003 (.deep 58 5)], [(1000000, .env 0 0), (1000001, .env 1 0), (1000002, .reg 1000001 1), (1000003, .reg 1000001 2)]⟩, 2, [(.ret, ⟨[], [.reg 1000000 (.cells [.int .i64]), .reg 1000001 (.cells [.int .u8, .full 1000002, .full 1000003]), .reg 1000002 (.row 5 .u8), .reg 1000003 (.deep 58 5)], []⟩), (.ret, ⟨[], [.reg 1000000 (.cells [.int .i64]), .reg 1000001 (.cells [.int .u8, .nils, .nils])], []⟩)], [], false⟩
noncomputable def FRc66o : Int × (Int × Unit × Unit) × List Int × List Tree -> Option ((Int × (Int × Unit × Unit) × List Int × List Tree) ⊕ (Int × (Int × Unit × Unit))) := fun (e, c, b, k) => if (e != 0) = true then some (.inr (e, (0, (), ()))) else some (.inl (e, (c.1, (), ()), b, k))
noncomputable def FPc66o (n : Int) : Int × (Int × Unit × Unit) × List Int × List Tree -> Option ((Int × (Int × Unit × Unit) × List Int × List Tree) ⊕ (Int × (Int × Unit × Unit))) := fun (e, c, b, k) => if (n != 0) = true then some (.inr (n, (0, (), ()))) else some (.inl (n, (c.1, (), ()), b, k))
theorem eqRc66o : ∀ x, cloF ctab (ofL Ec67) 7 Sc66o oac66o 2 (opAt oac66o 1) (Code.at' [1] (bd Try.f66)) .none .nilIface x = FRc66o x := by
 rintro ⟨e, c, b, k⟩
 kernel_rfl
theorem eqPc66o (n : Int) : ∀ x, cloF ctab (ofL Ec67) 7 Sc66o oac66o 2 (opAt oac66o 1) (Code.at' [1] (bd Try.f66)) .none (.iface 125 (.agg #[.int .i64 n])) x = FPc66o n x := by
 rintro ⟨e, c, b, k⟩
 kernel_rfl
theorem cloc66o {u u' : FrameMode} {v : Value} (hu : Recovers u u' v) {F : Sc66o.inT -> Option Sc66o.outT} (h : ∀ x, cloF ctab (ofL Ec67) 7 Sc66o oac66o 2 (opAt oac66o 1) (Code.at' [1] (bd Try.f66)) .none v x = F x) : CallsDL Try.prog 66 Sc66o u u' F :=
 clo_callsDL (cx Ec67_ok) (fn := Try.f66) (id := 0) (ops := oac66o) (rest := Code.at' [1] (bd Try.f66)) (ann := .none) (t0 := 2) (v := v) (o0 := opAt oac66o 0) (o1 := opAt oac66o 1) (by kernel_rfl) (by kernel_rfl) (by kernel_rfl) (by kernel_rfl) (by kernel_rfl) (by kernel_rfl) (by kernel_rfl) (by kernel_rfl) (by kernel_rfl) (fun a w => by kernel_rfl) (by kernel_rfl) (by kernel_rfl) (by kernel_rfl)
  noCuts hu h
theorem okc66o : CloOk Try.prog 66 Sc66o 125 FRc66o FPc66o := ⟨cloc66o (.inl ⟨rfl, rfl, rfl⟩) eqRc66o, fun n => cloc66o (.inr ⟨rfl, rfl⟩) (eqPc66o n)⟩
def outc41o : (Int × (Int × Unit × Unit) × List Int × List Tree) ⊕ (Int × (Int × Unit × Unit)) -> Option ((Int × Unit × Unit) × Int × List Int × List Tree)
 | .inl (e, c, b, k) => some ((c.1, (), ()), e, b, k)
 | .inr (e, c) => some ((c.1, (), ()), e, [], [])
abbrev Sc41o : FL := ⟨⟨[], [.env 0 (.c (.fz (.int .u8)))], []⟩, 1, [(.ret, ⟨[], [.env 0 (.agg [.int .u8, .full 1, .full 2]), .env 1 (.c (.int .i64)), .reg 1 (.row 5 .u8), .reg 2 (.deep 58 5)], [(1, .env 0 1), (2, .env 0 2)]⟩)], [.cell 2 58, .cell 3 27], false⟩
noncomputable def oac41o : Array Oper := opsOf (Code.at' [1, 0] (bd Try.f41))
abbrev SMc41o : FL := ⟨⟨[(2, .ptr 1000001 0 3), (3, .ptr 1000000 0 1)], [.env 0 (.c (.fz (.int .u8))), .reg 1000000 (.cells [.int .i64]), .reg 1000001 (.cells [.int .u8, .nils, .nils])], [(1000000, .env 3 0), (1000001, .env 2 0)]⟩, 4, [(.ret, ⟨[], [.env 0 (.agg [.int .u8, .full 1, .full 2]), .env 1 (.c (.int .i64)), .reg 1 (.row 5 .u8), .reg 2 (.deep 58 5)], [(1, .env 0 1), (2, .env 0 2)]⟩)], [.cell 2 58, .cell 3 27], false⟩
noncomputable def FMc41o : List Int × Int × (Int × Unit × Unit) -> Option ((Int × Unit × Unit) × Int × List Int × List Tree) := fun (b, e, i) =>
  if (decide ((b.length : Int) > 65536)) = true then (FRc66o (121, (0, (), ()), [], [])).bind outc41o
  else (Fc68o (b, 1)).bind fun
   | .inr (n, _) => (FPc66o n (e, (i.1, (), ()), [], [])).bind outc41o
   | .inl (c, bb, k, rest) =>
    if (decide ((rest.length : Int) > 0)) = true then
     (Fc69 126).bind fun (n, _) => (FPc66o n (e, (c.1, (), ()), bb, k)).bind outc41o
    else (FRc66o (0, (c.1, (), ()), bb, k)).bind outc41o
noncomputable def Fc41o : List Int -> Option ((Int × Unit × Unit) × Int × List Int × List Tree) := fun (b : List Int) => (FMc41o (b, 0, (0, (), ()))).bind fun (c, e, bb, k) => some ((c.1, (), ()), e, bb, k)
theorem eqMc41o : ∀ x, exec ctab (ofL Ec68o) 23 (Code.at' [1, 1] (bd Try.f41)) .none (finD ctab SMc41o [3, 2] (SMc41o.inp.enc x) (funEntL Sc66o false FRc66o) 125 (fun n => funEntL Sc66o false (FPc66o n))) (SMc41o.inp.enc x) = FMc41o x := by
 rintro ⟨b, e, i⟩
 kernel_rfl
theorem eqc41o : ∀ x, deferF ctab (ofL Ec68o) 23 (Code.at' [0] (bd Try.f41)) .none Sc41o SMc41o [0, 2, 3] 5 FMc41o x = Fc41o x := by
 intro b
 kernel_rfl
theorem callsc41o : CallsL Try.prog 41 Sc41o Fc41o :=
 defer_callsL (cx Ec68o_ok) (fn := Try.f41) (fnc := Try.f66) (A := Code.at' [0] (bd Try.f41)) (rest := Code.at' [1, 1] (bd Try.f41)) (id := 1) (ops := oac41o) (cc := (bd Try.f66)) (o0 := opAt oac41o 0) (o1 := opAt oac41o 1) (tc := 5) (pt := 125) (cs := [3, 2]) (kn := [0, 2, 3]) (SM := SMc41o) (SC := Sc66o) (annA := .none) (ann := .none) (FR := FRc66o) (FPn := FPc66o) (FM := FMc41o)
  (by kernel_rfl) (by kernel_rfl) (by kernel_rfl) (by kernel_rfl) (by kernel_rfl) (by kernel_rfl) (by kernel_rfl) (by kernel_rfl) (by kernel_rfl) (by kernel_rfl)
  (fun a w => by kernel_rfl) (fun a w vs h => defer_run (o := opAt oac41o 1) (ats := #[]) (by kernel_rfl) h)
  (by kernel_rfl) (by kernel_rfl) (by kernel_rfl) (by kernel_rfl) okc66o (by kernel_rfl) (by kernel_rfl) (by kernel_rfl) (by kernel_rfl) (by kernel_rfl) (by kernel_rfl) (by kernel_rfl)
  noCuts noCuts eqMc41o eqc41o
theorem entc41o : EntOk Try.prog 41 (funEntL Sc41o true Fc41o) := fun_okL (fn := Try.f41) (c := (bd Try.f41)) (by kernel_rfl) (by kernel_rfl) (by kernel_rfl) (by kernel_rfl) callsc41o
noncomputable def Ec41o : List (Nat × Ent) := (41, (frzEnt (funEntL Sc41o true Fc41o))) :: Ec68o
theorem Ec41o_ok : EntsOk Try.prog (ofL Ec41o) := .cons (frz_ok entc41o) Ec68o_ok
abbrev Sc8o : FL := ⟨⟨[(0, .full 1000000)], [.reg 1000000 (.row 5 .u8)], [(1000000, .env 0 0)]⟩, 1, [(.ret, ⟨[], [.env 0 (.dat (.pair (.int .u64) (.pair .str (.pair .str (.pair (.sl (.int .u8)) (.pair (.sl (.pair (.int .i64) (.pair .bool (.sl (.int .u8))))) (.sl (.int .u8)))))))), .env 1 (.c (.fz (.int .u8))), .env 2 (.c (.int .i64)), .reg 1000000 (.row 5 .u8)], []⟩)], [.cell 2 26, .cell 3 22, .cell 4 27], true⟩
noncomputable def oac8o : Array Oper := opsOf (Code.at' [1, 0] (bd Try.f8))
abbrev SMc8o : FL := ⟨⟨[(0, .full 1000003), (2, .ptr 1000000 0 6), (3, .ptr 1000001 0 1), (4, .ptr 1000002 0 1)], [.reg 1000003 (.row 5 .u8), .reg 1000000 (.cells [.int .u64, .str, .str, .fz (.int .u8), .fz (.pair (.int .i64) (.pair .bool (.sl (.int .u8)))), .fz (.int .u8)]), .reg 1000001 (.cells [.fz (.int .u8)]), .reg 1000002 (.cells [.int .i64])], [(1000003, .env 0 0), (1000000, .env 2 0), (1000001, .env 3 0), (1000002, .env 4 0)]⟩, 5, [(.ret, ⟨[], [.env 0 (.dat (.pair (.int .u64) (.pair .str (.pair .str (.pair (.sl (.int .u8)) (.pair (.sl (.pair (.int .i64) (.pair .bool (.sl (.int .u8))))) (.sl (.int .u8)))))))), .env 1 (.c (.fz (.int .u8))), .env 2 (.c (.int .i64)), .reg 1000003 (.row 5 .u8)], []⟩)], [.cell 2 26, .cell 3 22, .cell 4 27], true⟩
noncomputable def FMc8o : List Int × (Int × ByteArray × ByteArray × List Int × List (Int × Bool × List Int) × List Int) × List Int × Int -> Option ((Int × ByteArray × ByteArray × List Int × List (Int × Bool × List Int) × List Int) × List Int × Int × List Int) := fun (b, c, s, e) =>
  (Fc41o b).bind fun (y0, y2, yb, yk) =>
   if (y2 != 0) = true then (FRc40 ((0, ByteArray.empty, ByteArray.empty, [], [], []), [], y2)).bind fun (c', s', e') => some (c', s', e', b)
   else (Fc42 (Tree.node y0.1 yb yk)).bind fun
    | .inl (e3, _) => (FPc40 e3 (c, s, y2)).bind fun (c', s', e') => some (c', s', e', b)
    | .inr (y4, y5, y6, y7) =>
     (Fc43 (y4.1, (y4.2.1, (y4.2.2.1, (y5, (y6, y7)))))).bind fun y8 =>
      if (y8 == 134) = false then
       if ((y7.length : Int) != 3373) = true then (Fc44 134).bind fun (e9, _) => (FPc40 e9 ((y4.1, y4.2.1, y4.2.2.1, y5, y6, y7), s, y2)).bind fun (c', s', e') => some (c', s', e', b)
       else
        if (y8 != 0) = true then (Fc44 y8).bind fun (e10, _) => (FPc40 e10 ((y4.1, y4.2.1, y4.2.2.1, y5, y6, y7), s, y2)).bind fun (c', s', e') => some (c', s', e', b)
        else
         if (0 : Int) ≤ (0 : Int) ∧ (0 : Int) < (yk.length : Int) then
          (Fc45 (Tree.node (yk.getD 0 (DT.dflt .item)).tag (yk.getD 0 (DT.dflt .item)).body (yk.getD 0 (DT.dflt .item)).kids)).bind fun (y11, y12) => (FRc40 ((y4.1, y4.2.1, y4.2.2.1, y5, y6, y7), y11, 0)).bind fun (c', s', e') => some (c', s', e', b)
         else none
      else (Fc44 134).bind fun (e13, _) => (FPc40 e13 ((y4.1, y4.2.1, y4.2.2.1, y5, y6, y7), s, y2)).bind fun (c', s', e') => some (c', s', e', b)
noncomputable def Fc8o : List Int -> Option ((Int × ByteArray × ByteArray × List Int × List (Int × Bool × List Int) × List Int) × List Int × Int × List Int) := fun (b : List Int) => (FMc8o (b, (0, ByteArray.empty, ByteArray.empty, [], [], []), [], 0)).bind fun (c, s, e, b') => some (c, s, e, b')
theorem eqMc8o : ∀ x, exec ctab (ofL Ec41o) 43 (Code.at' [1, 1] (bd Try.f8)) .none (finD ctab SMc8o [2, 3, 4] (SMc8o.inp.enc x) (funEntL Sc40 false FRc40) 75 (fun n => funEntL Sc40 false (FPc40 n))) (SMc8o.inp.enc x) = FMc8o x := by
 rintro ⟨b, c, s, e⟩
 kernel_rfl
theorem eqc8o : ∀ x, deferF ctab (ofL Ec41o) 43 (Code.at' [0] (bd Try.f8)) .none Sc8o SMc8o [0, 2, 3, 4] 7 FMc8o x = Fc8o x := by
 intro b
 kernel_rfl
theorem callsc8o : CallsL Try.prog 8 Sc8o Fc8o :=
 defer_callsL (cx Ec41o_ok) (fn := Try.f8) (fnc := Try.f40) (A := Code.at' [0] (bd Try.f8)) (rest := Code.at' [1, 1] (bd Try.f8)) (id := 1) (ops := oac8o) (cc := (bd Try.f40)) (o0 := opAt oac8o 0) (o1 := opAt oac8o 1) (tc := 7) (pt := 75) (cs := [2, 3, 4]) (kn := [0, 2, 3, 4]) (SM := SMc8o) (SC := Sc40) (annA := .none) (ann := .none) (FR := FRc40) (FPn := FPc40) (FM := FMc8o)
  (by kernel_rfl) (by kernel_rfl) (by kernel_rfl) (by kernel_rfl) (by kernel_rfl) (by kernel_rfl) (by kernel_rfl) (by kernel_rfl) (by kernel_rfl) (by kernel_rfl)
  (fun a w => by kernel_rfl) (fun a w vs h => defer_run (o := opAt oac8o 1) (ats := #[]) (by kernel_rfl) h)
  (by kernel_rfl) (by kernel_rfl) (by kernel_rfl) (by kernel_rfl) okc40 (by kernel_rfl) (by kernel_rfl) (by kernel_rfl) (by kernel_rfl) (by kernel_rfl) (by kernel_rfl) (by kernel_rfl)
  noCuts noCuts eqMc8o eqc8o
noncomputable def Ec8o : List (Nat × Ent) := (8, (capEnt 5 Fc8o)) :: Ec41o
theorem Ec8o_ok : EntsOk Try.prog (ofL Ec8o) := .cons (cap_ok (eb := 5) (fn := Try.f8) (cd := (bd Try.f8)) (by kernel_rfl) (by kernel_rfl) (by kernel_rfl) callsc8o) Ec41o_ok
noncomputable def sbody : Code := (Try.f11.body).getD .skip
theorem sbody_eq : Try.f11.body = some sbody := by kernel_rfl
noncomputable def so0 : Array Oper := opsOf (Code.at' [0, 0] sbody)
noncomputable def so1 : Array Oper := opsOf (Code.at' [0, 1, 1, 1, 0, 0] sbody)
noncomputable def so2 : Array Oper := opsOf (Code.at' [0, 1, 1, 1, 1, 1] sbody)
noncomputable def so3 : Array Oper := opsOf (Code.at' [0, 1, 1, 1, 1, 0, 1] sbody)
noncomputable def so4 : Array Oper := opsOf (Code.at' [1, 0, 0] sbody)
noncomputable def so5 : Array Oper := opsOf (Code.at' [1, 0, 1, 1, 1, 0, 0] sbody)
noncomputable def so6 : Array Oper := opsOf (Code.at' [1, 0, 1, 1, 1, 1, 1] sbody)
noncomputable def so7 : Array Oper := opsOf (Code.at' [1, 0, 1, 1, 1, 1, 0, 1] sbody)
noncomputable def so8 : Array Oper := opsOf (Code.at' [1, 1, 0, 0] sbody)
noncomputable def so9 : Array Oper := opsOf (Code.at' [1, 1, 0, 1, 1, 1, 0, 0] sbody)
noncomputable def so10 : Array Oper := opsOf (Code.at' [1, 1, 0, 1, 1, 1, 1, 1] sbody)
noncomputable def so11 : Array Oper := opsOf (Code.at' [1, 1, 0, 1, 1, 1, 1, 0, 1, 0, 0] sbody)
noncomputable def so12 : Array Oper := opsOf (Code.at' [1, 1, 0, 1, 1, 1, 1, 0, 1, 0, 1, 1, 1, 0, 0] sbody)
noncomputable def so13 : Array Oper := opsOf (Code.at' [1, 1, 0, 1, 1, 1, 1, 0, 1, 0, 1, 1, 1, 1, 1] sbody)
noncomputable def so14 : Array Oper := opsOf (Code.at' [1, 1, 0, 1, 1, 1, 1, 0, 1, 0, 1, 1, 1, 1, 0, 1] sbody)
noncomputable def so15 : Array Oper := opsOf (Code.at' [1, 1, 0, 1, 1, 1, 1, 0, 1, 1] sbody)
noncomputable def so16 : Array Oper := opsOf (Code.at' [1, 1, 1, 0] sbody)
noncomputable def so17 : Array Oper := opsOf (Code.at' [1, 1, 1, 1, 1, 1, 0, 0] sbody)
noncomputable def so18 : Array Oper := opsOf (Code.at' [1, 1, 1, 1, 1, 1, 1, 1] sbody)
noncomputable def so19 : Array Oper := opsOf (Code.at' [1, 1, 1, 1, 1, 1, 1, 0, 1] sbody)
theorem r0z {a : Act} {w : World} {B : Nat} {vt : Value}  (A : At 87 ([(0, .pointer (some ⟨B, 0, none⟩)), (1, vt)]) a) : (Code.region 0 so0 false).wp Try.prog (NormQ fun a' w' => At 87 ((4, .int .i64 (0 : Nat)) :: [(0, .pointer (some ⟨B, 0, none⟩)), (1, vt)]) a' ∧ w' = w) a w := by
 refine wp_region ?_
 rw [show List.range so0.size = [0] by kernel_rfl]
 refine st_assign (x := .const (.int .i64 (0))) (d := 4) (opIs_mk (by kernel_rfl)) rfl A rfl (fun a A => ?_)
 exact ⟨rfl, A.sub ⟨rfl, rfl, rfl, trivial⟩, rfl⟩
theorem r1c {a : Act} {w : World} {B : Nat} {vt : Value} {k n c : Nat} {p : Option Addr} (c3 : w.cell? ((⟨B, 0, none⟩ : Addr).add 3) = some (.slice p n c)) (A : At 87 ((4, .int .i64 (k : Nat)) :: [(0, .pointer (some ⟨B, 0, none⟩)), (1, vt)]) a) : (Code.region 1 so1 false).wp Try.prog (NormQ fun a' w' => At 87 ((15, .bool (decide ((k : Int) < (n : Int)))) :: (4, .int .i64 (k : Nat)) :: [(0, .pointer (some ⟨B, 0, none⟩)), (1, vt)]) a' ∧ w' = w) a w := by
 refine wp_region ?_
 rw [show List.range so1.size = [0, 1, 2, 3, 4, 5, 6] by kernel_rfl]
 refine st_move (x := .tmp 4) (d := 9) (opIs_mk (by kernel_rfl)) rfl A rfl (fun a A => ?_)
 refine st_move (x := .tmp 0) (d := 10) (opIs_mk (by kernel_rfl)) rfl A rfl (fun a A => ?_)
 refine st_nil (x := .tmp 10) (d := 11) (opIs_mk (by kernel_rfl)) rfl A rfl (fun a A => ?_)
 refine st_field ctabOk (x := .tmp 11) (s := 26) (f := 3) (d := 12) (opIs_mk (by kernel_rfl)) rfl A rfl rfl rfl rfl rfl (fun a A => ?_)
 refine st_load ctabOk (x := .tmp 12) (t := 22) (d := 13) (opIs_mk (by kernel_rfl)) rfl A rfl rfl rfl c3 (fun a A => ?_)
 refine st_len ctabOk (x := .tmp 13) (t := 22) (d := 14) (opIs_mk (by kernel_rfl)) rfl A rfl rfl (fun a A => ?_)
 refine st_lss (x := .tmp 9) (y := .tmp 14) (t := 3) (t2 := 3) (d := 15) (opIs_mk (by kernel_rfl)) rfl A rfl rfl (fun a A => ?_)
 exact ⟨rfl, A.sub ⟨rfl, rfl, rfl, rfl, trivial⟩, rfl⟩
theorem r3b {a : Act} {w : World} {B : Nat} {vt : Value} {k n c : Nat} {p : Addr} {u : Value} (c3 : w.cell? ((⟨B, 0, none⟩ : Addr).add 3) = some (.slice (some p) n c)) (hk : k < n) (cs : ucell w (p.add (k * 1)) = some u) (A : At 87 ((4, .int .i64 (k : Nat)) :: [(0, .pointer (some ⟨B, 0, none⟩)), (1, vt)]) a) : (Code.region 3 so3 false).wp Try.prog (NormQ fun a' w' => At 87 ((4, .int .i64 (k : Nat)) :: [(0, .pointer (some ⟨B, 0, none⟩)), (1, vt)]) a' ∧ w' = w.setCell (p.add (k * 1)) (.int .u8 99)) a w := by
 refine wp_region ?_
 rw [show List.range so3.size = [0, 1, 2, 3, 4, 5, 6] by kernel_rfl]
 refine st_move (x := .tmp 0) (d := 18) (opIs_mk (by kernel_rfl)) rfl A rfl (fun a A => ?_)
 refine st_nil (x := .tmp 18) (d := 19) (opIs_mk (by kernel_rfl)) rfl A rfl (fun a A => ?_)
 refine st_field ctabOk (x := .tmp 19) (s := 26) (f := 3) (d := 20) (opIs_mk (by kernel_rfl)) rfl A rfl rfl rfl rfl rfl (fun a A => ?_)
 refine st_load ctabOk (x := .tmp 20) (t := 22) (d := 21) (opIs_mk (by kernel_rfl)) rfl A rfl rfl rfl c3 (fun a A => ?_)
 refine st_move (x := .tmp 4) (d := 22) (opIs_mk (by kernel_rfl)) rfl A rfl (fun a A => ?_)
 refine st_index ctabOk (x := .tmp 21) (y := .tmp 22) (t := 22) (d := 23) (opIs_mk (by kernel_rfl)) rfl A rfl rfl rfl rfl hk (fun a A => ?_)
 refine st_store ctabOk (x := .tmp 23) (y := .const (.int .u8 (99))) (t := 5) (opIs_mk (by kernel_rfl)) A rfl rfl rfl rfl cs ?_
 exact ⟨rfl, A.sub ⟨rfl, rfl, rfl, trivial⟩, rfl⟩
theorem r2i {a : Act} {w : World} {B : Nat} {vt : Value} {k : Nat} (hk : k < 2 ^ 62) (A : At 87 ((4, .int .i64 (k : Nat)) :: [(0, .pointer (some ⟨B, 0, none⟩)), (1, vt)]) a) : (Code.region 2 so2 false).wp Try.prog (NormQ fun a' w' => At 87 ((4, .int .i64 (k + 1 : Nat)) :: [(0, .pointer (some ⟨B, 0, none⟩)), (1, vt)]) a' ∧ w' = w) a w := by
 refine wp_region ?_
 rw [show List.range so2.size = [0, 1, 2] by kernel_rfl]
 refine st_move (x := .tmp 4) (d := 16) (opIs_mk (by kernel_rfl)) rfl A rfl (fun a A => ?_)
 refine st_inc (x := .tmp 16) (t := 3) (t2 := 3) (d := 17) (opIs_mk (by kernel_rfl)) rfl A rfl hk (fun a A => ?_)
 refine st_assign (x := .tmp 17) (d := 4) (opIs_mk (by kernel_rfl)) rfl A rfl (fun a A => ?_)
 exact ⟨rfl, A.sub ⟨rfl, rfl, rfl, trivial⟩, rfl⟩
theorem r4z {a : Act} {w : World} {B : Nat} {vt : Value}  (A : At 87 ([(0, .pointer (some ⟨B, 0, none⟩)), (1, vt)]) a) : (Code.region 4 so4 false).wp Try.prog (NormQ fun a' w' => At 87 ((5, .int .i64 (0 : Nat)) :: [(0, .pointer (some ⟨B, 0, none⟩)), (1, vt)]) a' ∧ w' = w) a w := by
 refine wp_region ?_
 rw [show List.range so4.size = [0] by kernel_rfl]
 refine st_assign (x := .const (.int .i64 (0))) (d := 5) (opIs_mk (by kernel_rfl)) rfl A rfl (fun a A => ?_)
 exact ⟨rfl, A.sub ⟨rfl, rfl, rfl, trivial⟩, rfl⟩
theorem r5c {a : Act} {w : World} {B : Nat} {vt : Value} {k n c : Nat} {p : Option Addr} (c5 : w.cell? ((⟨B, 0, none⟩ : Addr).add 5) = some (.slice p n c)) (A : At 87 ((5, .int .i64 (k : Nat)) :: [(0, .pointer (some ⟨B, 0, none⟩)), (1, vt)]) a) : (Code.region 5 so5 false).wp Try.prog (NormQ fun a' w' => At 87 ((30, .bool (decide ((k : Int) < (n : Int)))) :: (5, .int .i64 (k : Nat)) :: [(0, .pointer (some ⟨B, 0, none⟩)), (1, vt)]) a' ∧ w' = w) a w := by
 refine wp_region ?_
 rw [show List.range so5.size = [0, 1, 2, 3, 4, 5, 6] by kernel_rfl]
 refine st_move (x := .tmp 5) (d := 24) (opIs_mk (by kernel_rfl)) rfl A rfl (fun a A => ?_)
 refine st_move (x := .tmp 0) (d := 25) (opIs_mk (by kernel_rfl)) rfl A rfl (fun a A => ?_)
 refine st_nil (x := .tmp 25) (d := 26) (opIs_mk (by kernel_rfl)) rfl A rfl (fun a A => ?_)
 refine st_field ctabOk (x := .tmp 26) (s := 26) (f := 5) (d := 27) (opIs_mk (by kernel_rfl)) rfl A rfl rfl rfl rfl rfl (fun a A => ?_)
 refine st_load ctabOk (x := .tmp 27) (t := 22) (d := 28) (opIs_mk (by kernel_rfl)) rfl A rfl rfl rfl c5 (fun a A => ?_)
 refine st_len ctabOk (x := .tmp 28) (t := 22) (d := 29) (opIs_mk (by kernel_rfl)) rfl A rfl rfl (fun a A => ?_)
 refine st_lss (x := .tmp 24) (y := .tmp 29) (t := 3) (t2 := 3) (d := 30) (opIs_mk (by kernel_rfl)) rfl A rfl rfl (fun a A => ?_)
 exact ⟨rfl, A.sub ⟨rfl, rfl, rfl, rfl, trivial⟩, rfl⟩
theorem r7b {a : Act} {w : World} {B : Nat} {vt : Value} {k n c : Nat} {p : Addr} {u : Value} (c5 : w.cell? ((⟨B, 0, none⟩ : Addr).add 5) = some (.slice (some p) n c)) (hk : k < n) (cs : ucell w (p.add (k * 1)) = some u) (A : At 87 ((5, .int .i64 (k : Nat)) :: [(0, .pointer (some ⟨B, 0, none⟩)), (1, vt)]) a) : (Code.region 7 so7 false).wp Try.prog (NormQ fun a' w' => At 87 ((5, .int .i64 (k : Nat)) :: [(0, .pointer (some ⟨B, 0, none⟩)), (1, vt)]) a' ∧ w' = w.setCell (p.add (k * 1)) (.int .u8 99)) a w := by
 refine wp_region ?_
 rw [show List.range so7.size = [0, 1, 2, 3, 4, 5, 6] by kernel_rfl]
 refine st_move (x := .tmp 0) (d := 33) (opIs_mk (by kernel_rfl)) rfl A rfl (fun a A => ?_)
 refine st_nil (x := .tmp 33) (d := 34) (opIs_mk (by kernel_rfl)) rfl A rfl (fun a A => ?_)
 refine st_field ctabOk (x := .tmp 34) (s := 26) (f := 5) (d := 35) (opIs_mk (by kernel_rfl)) rfl A rfl rfl rfl rfl rfl (fun a A => ?_)
 refine st_load ctabOk (x := .tmp 35) (t := 22) (d := 36) (opIs_mk (by kernel_rfl)) rfl A rfl rfl rfl c5 (fun a A => ?_)
 refine st_move (x := .tmp 5) (d := 37) (opIs_mk (by kernel_rfl)) rfl A rfl (fun a A => ?_)
 refine st_index ctabOk (x := .tmp 36) (y := .tmp 37) (t := 22) (d := 38) (opIs_mk (by kernel_rfl)) rfl A rfl rfl rfl rfl hk (fun a A => ?_)
 refine st_store ctabOk (x := .tmp 38) (y := .const (.int .u8 (99))) (t := 5) (opIs_mk (by kernel_rfl)) A rfl rfl rfl rfl cs ?_
 exact ⟨rfl, A.sub ⟨rfl, rfl, rfl, trivial⟩, rfl⟩
theorem r6i {a : Act} {w : World} {B : Nat} {vt : Value} {k : Nat} (hk : k < 2 ^ 62) (A : At 87 ((5, .int .i64 (k : Nat)) :: [(0, .pointer (some ⟨B, 0, none⟩)), (1, vt)]) a) : (Code.region 6 so6 false).wp Try.prog (NormQ fun a' w' => At 87 ((5, .int .i64 (k + 1 : Nat)) :: [(0, .pointer (some ⟨B, 0, none⟩)), (1, vt)]) a' ∧ w' = w) a w := by
 refine wp_region ?_
 rw [show List.range so6.size = [0, 1, 2] by kernel_rfl]
 refine st_move (x := .tmp 5) (d := 31) (opIs_mk (by kernel_rfl)) rfl A rfl (fun a A => ?_)
 refine st_inc (x := .tmp 31) (t := 3) (t2 := 3) (d := 32) (opIs_mk (by kernel_rfl)) rfl A rfl hk (fun a A => ?_)
 refine st_assign (x := .tmp 32) (d := 5) (opIs_mk (by kernel_rfl)) rfl A rfl (fun a A => ?_)
 exact ⟨rfl, A.sub ⟨rfl, rfl, rfl, trivial⟩, rfl⟩
theorem r8z {a : Act} {w : World} {B : Nat} {vt : Value}  (A : At 87 ([(0, .pointer (some ⟨B, 0, none⟩)), (1, vt)]) a) : (Code.region 8 so8 false).wp Try.prog (NormQ fun a' w' => At 87 ((6, .int .i64 (0 : Nat)) :: [(0, .pointer (some ⟨B, 0, none⟩)), (1, vt)]) a' ∧ w' = w) a w := by
 refine wp_region ?_
 rw [show List.range so8.size = [0] by kernel_rfl]
 refine st_assign (x := .const (.int .i64 (0))) (d := 6) (opIs_mk (by kernel_rfl)) rfl A rfl (fun a A => ?_)
 exact ⟨rfl, A.sub ⟨rfl, rfl, rfl, trivial⟩, rfl⟩
theorem r9c {a : Act} {w : World} {B : Nat} {vt : Value} {k n c : Nat} {p : Option Addr} (c4 : w.cell? ((⟨B, 0, none⟩ : Addr).add 4) = some (.slice p n c)) (A : At 87 ((6, .int .i64 (k : Nat)) :: [(0, .pointer (some ⟨B, 0, none⟩)), (1, vt)]) a) : (Code.region 9 so9 false).wp Try.prog (NormQ fun a' w' => At 87 ((45, .bool (decide ((k : Int) < (n : Int)))) :: (6, .int .i64 (k : Nat)) :: [(0, .pointer (some ⟨B, 0, none⟩)), (1, vt)]) a' ∧ w' = w) a w := by
 refine wp_region ?_
 rw [show List.range so9.size = [0, 1, 2, 3, 4, 5, 6] by kernel_rfl]
 refine st_move (x := .tmp 6) (d := 39) (opIs_mk (by kernel_rfl)) rfl A rfl (fun a A => ?_)
 refine st_move (x := .tmp 0) (d := 40) (opIs_mk (by kernel_rfl)) rfl A rfl (fun a A => ?_)
 refine st_nil (x := .tmp 40) (d := 41) (opIs_mk (by kernel_rfl)) rfl A rfl (fun a A => ?_)
 refine st_field ctabOk (x := .tmp 41) (s := 26) (f := 4) (d := 42) (opIs_mk (by kernel_rfl)) rfl A rfl rfl rfl rfl rfl (fun a A => ?_)
 refine st_load ctabOk (x := .tmp 42) (t := 24) (d := 43) (opIs_mk (by kernel_rfl)) rfl A rfl rfl rfl c4 (fun a A => ?_)
 refine st_len ctabOk (x := .tmp 43) (t := 24) (d := 44) (opIs_mk (by kernel_rfl)) rfl A rfl rfl (fun a A => ?_)
 refine st_lss (x := .tmp 39) (y := .tmp 44) (t := 3) (t2 := 3) (d := 45) (opIs_mk (by kernel_rfl)) rfl A rfl rfl (fun a A => ?_)
 exact ⟨rfl, A.sub ⟨rfl, rfl, rfl, rfl, trivial⟩, rfl⟩
theorem r10i {a : Act} {w : World} {B : Nat} {vt : Value} {k : Nat} (hk : k < 2 ^ 62) (A : At 87 ((6, .int .i64 (k : Nat)) :: [(0, .pointer (some ⟨B, 0, none⟩)), (1, vt)]) a) : (Code.region 10 so10 false).wp Try.prog (NormQ fun a' w' => At 87 ((6, .int .i64 (k + 1 : Nat)) :: [(0, .pointer (some ⟨B, 0, none⟩)), (1, vt)]) a' ∧ w' = w) a w := by
 refine wp_region ?_
 rw [show List.range so10.size = [0, 1, 2] by kernel_rfl]
 refine st_move (x := .tmp 6) (d := 46) (opIs_mk (by kernel_rfl)) rfl A rfl (fun a A => ?_)
 refine st_inc (x := .tmp 46) (t := 3) (t2 := 3) (d := 47) (opIs_mk (by kernel_rfl)) rfl A rfl hk (fun a A => ?_)
 refine st_assign (x := .tmp 47) (d := 6) (opIs_mk (by kernel_rfl)) rfl A rfl (fun a A => ?_)
 exact ⟨rfl, A.sub ⟨rfl, rfl, rfl, trivial⟩, rfl⟩
theorem r11z {a : Act} {w : World} {B : Nat} {vt : Value} {k : Nat} (A : At 87 ((6, .int .i64 (k : Nat)) :: [(0, .pointer (some ⟨B, 0, none⟩)), (1, vt)]) a) : (Code.region 11 so11 false).wp Try.prog (NormQ fun a' w' => At 87 ((7, .int .i64 (0 : Nat)) :: (6, .int .i64 (k : Nat)) :: [(0, .pointer (some ⟨B, 0, none⟩)), (1, vt)]) a' ∧ w' = w) a w := by
 refine wp_region ?_
 rw [show List.range so11.size = [0] by kernel_rfl]
 refine st_assign (x := .const (.int .i64 (0))) (d := 7) (opIs_mk (by kernel_rfl)) rfl A rfl (fun a A => ?_)
 exact ⟨rfl, A.sub ⟨rfl, rfl, rfl, rfl, trivial⟩, rfl⟩
theorem r12c {a : Act} {w : World} {B : Nat} {vt : Value} {k n c m n2 c2 : Nat} {p : Addr} {p2 : Option Addr} (h4 : w.cell? ((⟨B, 0, none⟩ : Addr).add 4) = some (.slice (some p) n c)) (hk : k < n) (c2 : w.cell? ((p.add (k * 3)).add 2) = some (.slice p2 n2 c2)) (A : At 87 ((7, .int .i64 (m : Nat)) :: (6, .int .i64 (k : Nat)) :: [(0, .pointer (some ⟨B, 0, none⟩)), (1, vt)]) a) : (Code.region 12 so12 false).wp Try.prog (NormQ fun a' w' => At 87 ((58, .bool (decide ((m : Int) < (n2 : Int)))) :: (7, .int .i64 (m : Nat)) :: (6, .int .i64 (k : Nat)) :: [(0, .pointer (some ⟨B, 0, none⟩)), (1, vt)]) a' ∧ w' = w) a w := by
 refine wp_region ?_
 rw [show List.range so12.size = [0, 1, 2, 3, 4, 5, 6, 7, 8, 9, 10] by kernel_rfl]
 refine st_move (x := .tmp 7) (d := 48) (opIs_mk (by kernel_rfl)) rfl A rfl (fun a A => ?_)
 refine st_move (x := .tmp 0) (d := 49) (opIs_mk (by kernel_rfl)) rfl A rfl (fun a A => ?_)
 refine st_nil (x := .tmp 49) (d := 50) (opIs_mk (by kernel_rfl)) rfl A rfl (fun a A => ?_)
 refine st_field ctabOk (x := .tmp 50) (s := 26) (f := 4) (d := 51) (opIs_mk (by kernel_rfl)) rfl A rfl rfl rfl rfl rfl (fun a A => ?_)
 refine st_load ctabOk (x := .tmp 51) (t := 24) (d := 52) (opIs_mk (by kernel_rfl)) rfl A rfl rfl rfl h4 (fun a A => ?_)
 refine st_move (x := .tmp 6) (d := 53) (opIs_mk (by kernel_rfl)) rfl A rfl (fun a A => ?_)
 refine st_index ctabOk (x := .tmp 52) (y := .tmp 53) (t := 24) (d := 54) (opIs_mk (by kernel_rfl)) rfl A rfl rfl rfl rfl hk (fun a A => ?_)
 refine st_field ctabOk (x := .tmp 54) (s := 45) (f := 2) (d := 55) (opIs_mk (by kernel_rfl)) rfl A rfl rfl rfl rfl rfl (fun a A => ?_)
 refine st_load ctabOk (x := .tmp 55) (t := 22) (d := 56) (opIs_mk (by kernel_rfl)) rfl A rfl rfl rfl c2 (fun a A => ?_)
 refine st_len ctabOk (x := .tmp 56) (t := 22) (d := 57) (opIs_mk (by kernel_rfl)) rfl A rfl rfl (fun a A => ?_)
 refine st_lss (x := .tmp 48) (y := .tmp 57) (t := 3) (t2 := 3) (d := 58) (opIs_mk (by kernel_rfl)) rfl A rfl rfl (fun a A => ?_)
 exact ⟨rfl, A.sub ⟨rfl, rfl, rfl, rfl, rfl, trivial⟩, rfl⟩
theorem r14b {a : Act} {w : World} {B : Nat} {vt : Value} {k n c m n2 c2 : Nat} {p p2 : Addr} {u : Value} (h4 : w.cell? ((⟨B, 0, none⟩ : Addr).add 4) = some (.slice (some p) n c)) (hk : k < n) (c2 : w.cell? ((p.add (k * 3)).add 2) = some (.slice (some p2) n2 c2)) (hm : m < n2) (cs : ucell w (p2.add (m * 1)) = some u) (A : At 87 ((7, .int .i64 (m : Nat)) :: (6, .int .i64 (k : Nat)) :: [(0, .pointer (some ⟨B, 0, none⟩)), (1, vt)]) a) : (Code.region 14 so14 false).wp Try.prog (NormQ fun a' w' => At 87 ((7, .int .i64 (m : Nat)) :: (6, .int .i64 (k : Nat)) :: [(0, .pointer (some ⟨B, 0, none⟩)), (1, vt)]) a' ∧ w' = w.setCell (p2.add (m * 1)) (.int .u8 99)) a w := by
 refine wp_region ?_
 rw [show List.range so14.size = [0, 1, 2, 3, 4, 5, 6, 7, 8, 9, 10] by kernel_rfl]
 refine st_move (x := .tmp 0) (d := 61) (opIs_mk (by kernel_rfl)) rfl A rfl (fun a A => ?_)
 refine st_nil (x := .tmp 61) (d := 62) (opIs_mk (by kernel_rfl)) rfl A rfl (fun a A => ?_)
 refine st_field ctabOk (x := .tmp 62) (s := 26) (f := 4) (d := 63) (opIs_mk (by kernel_rfl)) rfl A rfl rfl rfl rfl rfl (fun a A => ?_)
 refine st_load ctabOk (x := .tmp 63) (t := 24) (d := 64) (opIs_mk (by kernel_rfl)) rfl A rfl rfl rfl h4 (fun a A => ?_)
 refine st_move (x := .tmp 6) (d := 65) (opIs_mk (by kernel_rfl)) rfl A rfl (fun a A => ?_)
 refine st_index ctabOk (x := .tmp 64) (y := .tmp 65) (t := 24) (d := 66) (opIs_mk (by kernel_rfl)) rfl A rfl rfl rfl rfl hk (fun a A => ?_)
 refine st_field ctabOk (x := .tmp 66) (s := 45) (f := 2) (d := 67) (opIs_mk (by kernel_rfl)) rfl A rfl rfl rfl rfl rfl (fun a A => ?_)
 refine st_load ctabOk (x := .tmp 67) (t := 22) (d := 68) (opIs_mk (by kernel_rfl)) rfl A rfl rfl rfl c2 (fun a A => ?_)
 refine st_move (x := .tmp 7) (d := 69) (opIs_mk (by kernel_rfl)) rfl A rfl (fun a A => ?_)
 refine st_index ctabOk (x := .tmp 68) (y := .tmp 69) (t := 22) (d := 70) (opIs_mk (by kernel_rfl)) rfl A rfl rfl rfl rfl hm (fun a A => ?_)
 refine st_store ctabOk (x := .tmp 70) (y := .const (.int .u8 (99))) (t := 5) (opIs_mk (by kernel_rfl)) A rfl rfl rfl rfl cs ?_
 exact ⟨rfl, A.sub ⟨rfl, rfl, rfl, rfl, trivial⟩, rfl⟩
theorem r13i {a : Act} {w : World} {B : Nat} {vt : Value} {k m : Nat} (hk : m < 2 ^ 62) (A : At 87 ((7, .int .i64 (m : Nat)) :: (6, .int .i64 (k : Nat)) :: [(0, .pointer (some ⟨B, 0, none⟩)), (1, vt)]) a) : (Code.region 13 so13 false).wp Try.prog (NormQ fun a' w' => At 87 ((7, .int .i64 (m + 1 : Nat)) :: (6, .int .i64 (k : Nat)) :: [(0, .pointer (some ⟨B, 0, none⟩)), (1, vt)]) a' ∧ w' = w) a w := by
 refine wp_region ?_
 rw [show List.range so13.size = [0, 1, 2] by kernel_rfl]
 refine st_move (x := .tmp 7) (d := 59) (opIs_mk (by kernel_rfl)) rfl A rfl (fun a A => ?_)
 refine st_inc (x := .tmp 59) (t := 3) (t2 := 3) (d := 60) (opIs_mk (by kernel_rfl)) rfl A rfl hk (fun a A => ?_)
 refine st_assign (x := .tmp 60) (d := 7) (opIs_mk (by kernel_rfl)) rfl A rfl (fun a A => ?_)
 exact ⟨rfl, A.sub ⟨rfl, rfl, rfl, rfl, trivial⟩, rfl⟩
theorem r15b {a : Act} {w : World} {B : Nat} {vt : Value} {k n c : Nat} {p : Addr} {u : Value} (h4 : w.cell? ((⟨B, 0, none⟩ : Addr).add 4) = some (.slice (some p) n c)) (hk : k < n) (cs : ucell w ((p.add (k * 3)).add 0) = some u) (A : At 87 ((6, .int .i64 (k : Nat)) :: [(0, .pointer (some ⟨B, 0, none⟩)), (1, vt)]) a) : (Code.region 15 so15 false).wp Try.prog (NormQ fun a' w' => At 87 ((6, .int .i64 (k : Nat)) :: [(0, .pointer (some ⟨B, 0, none⟩)), (1, vt)]) a' ∧ w' = w.setCell ((p.add (k * 3)).add 0) (.int .i64 (-1))) a w := by
 refine wp_region ?_
 rw [show List.range so15.size = [0, 1, 2, 3, 4, 5, 6, 7] by kernel_rfl]
 refine st_move (x := .tmp 0) (d := 71) (opIs_mk (by kernel_rfl)) rfl A rfl (fun a A => ?_)
 refine st_nil (x := .tmp 71) (d := 72) (opIs_mk (by kernel_rfl)) rfl A rfl (fun a A => ?_)
 refine st_field ctabOk (x := .tmp 72) (s := 26) (f := 4) (d := 73) (opIs_mk (by kernel_rfl)) rfl A rfl rfl rfl rfl rfl (fun a A => ?_)
 refine st_load ctabOk (x := .tmp 73) (t := 24) (d := 74) (opIs_mk (by kernel_rfl)) rfl A rfl rfl rfl h4 (fun a A => ?_)
 refine st_move (x := .tmp 6) (d := 75) (opIs_mk (by kernel_rfl)) rfl A rfl (fun a A => ?_)
 refine st_index ctabOk (x := .tmp 74) (y := .tmp 75) (t := 24) (d := 76) (opIs_mk (by kernel_rfl)) rfl A rfl rfl rfl rfl hk (fun a A => ?_)
 refine st_field ctabOk (x := .tmp 76) (s := 45) (f := 0) (d := 77) (opIs_mk (by kernel_rfl)) rfl A rfl rfl rfl rfl rfl (fun a A => ?_)
 refine st_store ctabOk (x := .tmp 77) (y := .const (.int .i64 (-1))) (t := 3) (opIs_mk (by kernel_rfl)) A rfl rfl rfl rfl cs ?_
 exact ⟨rfl, A.sub ⟨rfl, rfl, rfl, trivial⟩, rfl⟩
theorem r16z {a : Act} {w : World} {B : Nat} {vt : Value}  (A : At 87 ([(0, .pointer (some ⟨B, 0, none⟩)), (1, vt)]) a) : (Code.region 16 so16 false).wp Try.prog (NormQ fun a' w' => At 87 ((8, .int .i64 (0 : Nat)) :: [(0, .pointer (some ⟨B, 0, none⟩)), (1, vt)]) a' ∧ w' = w) a w := by
 refine wp_region ?_
 rw [show List.range so16.size = [0] by kernel_rfl]
 refine st_assign (x := .const (.int .i64 (0))) (d := 8) (opIs_mk (by kernel_rfl)) rfl A rfl (fun a A => ?_)
 exact ⟨rfl, A.sub ⟨rfl, rfl, rfl, trivial⟩, rfl⟩
theorem r17c {a : Act} {w : World} {B : Nat} {vt : Value} {k n c : Nat} {q : Option Addr} (A : At 87 ((8, .int .i64 (k : Nat)) :: [(0, .pointer (some ⟨B, 0, none⟩)), (1, .slice q n c)]) a) : (Code.region 17 so17 false).wp Try.prog (NormQ fun a' w' => At 87 ((81, .bool (decide ((k : Int) < (n : Int)))) :: (8, .int .i64 (k : Nat)) :: [(0, .pointer (some ⟨B, 0, none⟩)), (1, .slice q n c)]) a' ∧ w' = w) a w := by
 refine wp_region ?_
 rw [show List.range so17.size = [0, 1, 2, 3] by kernel_rfl]
 refine st_move (x := .tmp 8) (d := 78) (opIs_mk (by kernel_rfl)) rfl A rfl (fun a A => ?_)
 refine st_move (x := .tmp 1) (d := 79) (opIs_mk (by kernel_rfl)) rfl A rfl (fun a A => ?_)
 refine st_len ctabOk (x := .tmp 79) (t := 22) (d := 80) (opIs_mk (by kernel_rfl)) rfl A rfl rfl (fun a A => ?_)
 refine st_lss (x := .tmp 78) (y := .tmp 80) (t := 3) (t2 := 3) (d := 81) (opIs_mk (by kernel_rfl)) rfl A rfl rfl (fun a A => ?_)
 exact ⟨rfl, A.sub ⟨rfl, rfl, rfl, rfl, trivial⟩, rfl⟩
theorem r19b {a : Act} {w : World} {B : Nat} {vt : Value} {k n c : Nat} {q : Addr} {u : Value} (hk : k < n) (cs : ucell w (q.add (k * 1)) = some u) (A : At 87 ((8, .int .i64 (k : Nat)) :: [(0, .pointer (some ⟨B, 0, none⟩)), (1, .slice (some q) n c)]) a) : (Code.region 19 so19 false).wp Try.prog (NormQ fun a' w' => At 87 ((8, .int .i64 (k : Nat)) :: [(0, .pointer (some ⟨B, 0, none⟩)), (1, .slice (some q) n c)]) a' ∧ w' = w.setCell (q.add (k * 1)) (.int .u8 99)) a w := by
 refine wp_region ?_
 rw [show List.range so19.size = [0, 1, 2, 3] by kernel_rfl]
 refine st_move (x := .tmp 1) (d := 84) (opIs_mk (by kernel_rfl)) rfl A rfl (fun a A => ?_)
 refine st_move (x := .tmp 8) (d := 85) (opIs_mk (by kernel_rfl)) rfl A rfl (fun a A => ?_)
 refine st_index ctabOk (x := .tmp 84) (y := .tmp 85) (t := 22) (d := 86) (opIs_mk (by kernel_rfl)) rfl A rfl rfl rfl rfl hk (fun a A => ?_)
 refine st_store ctabOk (x := .tmp 86) (y := .const (.int .u8 (99))) (t := 5) (opIs_mk (by kernel_rfl)) A rfl rfl rfl rfl cs ?_
 exact ⟨rfl, A.sub ⟨rfl, rfl, rfl, trivial⟩, rfl⟩
theorem r18i {a : Act} {w : World} {B : Nat} {vt : Value} {k : Nat} (hk : k < 2 ^ 62) (A : At 87 ((8, .int .i64 (k : Nat)) :: [(0, .pointer (some ⟨B, 0, none⟩)), (1, vt)]) a) : (Code.region 18 so18 false).wp Try.prog (NormQ fun a' w' => At 87 ((8, .int .i64 (k + 1 : Nat)) :: [(0, .pointer (some ⟨B, 0, none⟩)), (1, vt)]) a' ∧ w' = w) a w := by
 refine wp_region ?_
 rw [show List.range so18.size = [0, 1, 2] by kernel_rfl]
 refine st_move (x := .tmp 8) (d := 82) (opIs_mk (by kernel_rfl)) rfl A rfl (fun a A => ?_)
 refine st_inc (x := .tmp 82) (t := 3) (t2 := 3) (d := 83) (opIs_mk (by kernel_rfl)) rfl A rfl hk (fun a A => ?_)
 refine st_assign (x := .tmp 83) (d := 8) (opIs_mk (by kernel_rfl)) rfl A rfl (fun a A => ?_)
 exact ⟨rfl, A.sub ⟨rfl, rfl, rfl, trivial⟩, rfl⟩
theorem sbody_is : sbody = .seq (.seq (.region 0 so0 false) (.block 0 (.loop (.seq (.seq (.region 1 so1 false) (.cond (.tmp 15) .skip (.exit 0))) (.seq (.block 1 (.region 3 so3 false)) (.region 2 so2 false)))))) (.seq (.seq (.region 4 so4 false) (.block 2 (.loop (.seq (.seq (.region 5 so5 false) (.cond (.tmp 30) .skip (.exit 2))) (.seq (.block 3 (.region 7 so7 false)) (.region 6 so6 false)))))) (.seq (.seq (.region 8 so8 false) (.block 4 (.loop (.seq (.seq (.region 9 so9 false) (.cond (.tmp 45) .skip (.exit 4))) (.seq (.block 5 (.seq (.seq (.region 11 so11 false) (.block 6 (.loop (.seq (.seq (.region 12 so12 false) (.cond (.tmp 58) .skip (.exit 6))) (.seq (.block 7 (.region 14 so14 false)) (.region 13 so13 false)))))) (.region 15 so15 false))) (.region 10 so10 false)))))) (.seq (.region 16 so16 false) (.block 8 (.loop (.seq (.seq (.region 17 so17 false) (.cond (.tmp 81) .skip (.exit 8))) (.seq (.block 9 (.region 19 so19 false)) (.region 18 so18 false)))))))) := by kernel_rfl
section
variable {w : World} {B T : Nat} {cs : Array Value} {S : List Nat} {vk ve vs vt : Value} {xk xs xt : List Int} {xe : List extDT.T}
theorem spoil13 (hB : w.heap[B]? = some (.cells cs T (0, 0))) (h3 : cs[3]? = some vk) (h4 : cs[4]? = some ve) (h5 : cs[5]? = some vs) (hBS : B ∉ S)
  (fk : FzV w (fun b => b ∉ S) (.fz (.int .u8) xk none) vk) (fe : FzV w (fun b => b ∉ S) (.fz extDT xe none) ve) (fs : FzV w (fun b => b ∉ S) (.fz (.int .u8) xs none) vs) (ft : FzV w (fun b => b ∉ S) (.fz (.int .u8) xt none) vt)
  (lk : xk.length < 2 ^ 62) (le : List.length xe < 2 ^ 62) (ls : xs.length < 2 ^ 62) (lt : xt.length < 2 ^ 62) (li : ∀ x ∈ xe, x.2.2.length < 2 ^ 62) :
  Calls Try.prog 11 #[.pointer (some ⟨B, 0, none⟩), vt] w fun en w' => en = .returned (.tuple #[]) ∧ Sp S w w' := by
 obtain ⟨pk, ck, rfl, nk, gk⟩ := fz_by fk
 obtain ⟨pe, ce, rfl, ne, ge⟩ := fz_es fe
 obtain ⟨ps, cs', rfl, ns, gs⟩ := fz_by fs
 obtain ⟨pt, ct, rfl, nt, gt⟩ := fz_by ft
 have cell : ∀ {w' : World} {o : Nat} {v : Value}, Sp S w w' -> cs[o]? = some v -> w'.cell? ((⟨B, 0, none⟩ : Addr).add o) = some v := by
  intro w' o v H h
  rw [add_lit, Nat.zero_add]
  have := H.keep B hBS
  simp only [World.cell?]
  rw [this, hB]
  simpa using h
 refine calls_of_wp (fn := Try.f11) (c := sbody) (by kernel_rfl) sbody_eq ?_
 rw [sbody_is]
 have n87 : Try.f11.ntmps = 87 := by kernel_rfl
 rw [n87]
 have A0 := At.enter2 (nt := 87) (x := .pointer (some ⟨B, 0, none⟩)) (y := .slice pt xt.length ct) rfl (by decide)
 have big : (2 : Nat) ^ 62 = 4611686018427387904 := by decide
 refine wp_mono (Q := NormQ fun a w' => At 87 [(0, .pointer (some ⟨B, 0, none⟩)), (1, .slice pt xt.length ct)] a ∧ Sp S w w') ?_ ?_
 rotate_left
 ·rintro e a w' ⟨rfl, A, H⟩
  exact ⟨A.2.1, .tuple #[], by kernel_rfl, rfl, H⟩
 refine seqN (I := fun a w' => At 87 [(0, .pointer (some ⟨B, 0, none⟩)), (1, .slice pt xt.length ct)] a ∧ Sp S w w') (seqN (r0z A0) (fun a w' ⟨A, h⟩ => count_loop (s := 4) (N := xk.length) (S := S) (w0 := w) ?_ ?_ ?_ (by intro _; exact ⟨rfl, rfl, trivial⟩) A (h ▸ Sp.refl S w))) (fun a w' ⟨A, H⟩ => ?_)
 ·exact fun k a w' A H => monoN (r1c (cell H h3) A) fun a' w'' ⟨h1, h2⟩ => ⟨h1.val rfl, h1.sub ⟨rfl, rfl, rfl, trivial⟩, h2⟩
 ·intro k a w' hk A H
  cases pk with
  | none => rw [nk rfl] at hk; exact absurd hk (Nat.not_lt_zero _)
  | some p =>
   obtain ⟨hS, n, hc⟩ := gk p rfl k hk
   obtain ⟨m, hm⟩ := H.int hc
   exact monoN (r3b (cell H h3) hk hm A) fun a' w'' ⟨h1, h2⟩ => ⟨h1, h2 ▸ H.store hm hS⟩
 ·exact fun k a w' hk A => r2i (by omega) A
 refine seqN (I := fun a w' => At 87 [(0, .pointer (some ⟨B, 0, none⟩)), (1, .slice pt xt.length ct)] a ∧ Sp S w w') (seqN (r4z A) (fun a w' ⟨A, h⟩ => count_loop (s := 5) (N := xs.length) (S := S) (w0 := w) ?_ ?_ ?_ (by intro _; exact ⟨rfl, rfl, trivial⟩) A (h ▸ H))) (fun a w' ⟨A, H⟩ => ?_)
 ·exact fun k a w' A H => monoN (r5c (cell H h5) A) fun a' w'' ⟨h1, h2⟩ => ⟨h1.val rfl, h1.sub ⟨rfl, rfl, rfl, trivial⟩, h2⟩
 ·intro k a w' hk A H
  cases ps with
  | none => rw [ns rfl] at hk; exact absurd hk (Nat.not_lt_zero _)
  | some p =>
   obtain ⟨hS, n, hc⟩ := gs p rfl k hk
   obtain ⟨m, hm⟩ := H.int hc
   exact monoN (r7b (cell H h5) hk hm A) fun a' w'' ⟨h1, h2⟩ => ⟨h1, h2 ▸ H.store hm hS⟩
 ·exact fun k a w' hk A => r6i (by omega) A
 refine seqN (I := fun a w' => At 87 [(0, .pointer (some ⟨B, 0, none⟩)), (1, .slice pt xt.length ct)] a ∧ Sp S w w') (seqN (r8z A) (fun a w' ⟨A, h⟩ => count_loop (s := 6) (N := List.length xe) (S := S) (w0 := w) ?_ ?_ ?_ (by intro _; exact ⟨rfl, rfl, trivial⟩) A (h ▸ H))) (fun a w' ⟨A, H⟩ => ?_)
 ·exact fun k a w' A H => monoN (r9c (cell H h4) A) fun a' w'' ⟨h1, h2⟩ => ⟨h1.val rfl, h1.sub ⟨rfl, rfl, rfl, trivial⟩, h2⟩
 ·intro k a w' hk A H
  cases pe with
  | none => rw [ne rfl] at hk; exact absurd hk (Nat.not_lt_zero _)
  | some p =>
   obtain ⟨hS, ⟨n, hc⟩, u, hu, fu⟩ := ge p rfl k hk
   obtain ⟨pv, cv, rfl, nv, gv⟩ := fz_by fu
   have lv := li _ (List.getElem_mem hk)
   refine seqN (I := fun a w' => At 87 [(6, .int .i64 (k : Nat)), (0, .pointer (some ⟨B, 0, none⟩)), (1, .slice pt xt.length ct)] a ∧ Sp S w w') (seqN (r11z A) (fun a w' ⟨A, h⟩ => count_loop (s := 7) (N := ((xe[k]'hk).2.2).length) (S := S) (w0 := w) ?_ ?_ ?_ (by intro _; exact ⟨rfl, rfl, rfl, trivial⟩) A (h ▸ H))) (fun a w' ⟨A, H⟩ => ?_)
   ·exact fun m a w' A H => monoN (r12c (cell H h4) hk (H.sl hu) A) fun a' w'' ⟨h1, h2⟩ => ⟨h1.val rfl, h1.sub ⟨rfl, rfl, rfl, rfl, trivial⟩, h2⟩
   ·intro m a w' hm A H
    cases pv with
    | none => rw [nv rfl] at hm; exact absurd hm (Nat.not_lt_zero _)
    | some p2 =>
     obtain ⟨hS2, n2, hc2⟩ := gv p2 rfl m hm
     obtain ⟨m2, hm2⟩ := H.int hc2
     exact monoN (r14b (cell H h4) hk (H.sl hu) hm hm2 A) fun a' w'' ⟨h1, h2⟩ => ⟨h1, h2 ▸ H.store hm2 hS2⟩
   ·exact fun m a w' hm A => r13i (by omega) A
   ·obtain ⟨m, hm⟩ := H.int hc
    exact monoN (r15b (cell H h4) hk hm A) fun a' w'' ⟨h1, h2⟩ => ⟨h1, h2 ▸ H.store hm hS⟩
 ·exact fun k a w' hk A => r10i (by omega) A
 refine seqN (r16z A) (fun a w' ⟨A, h⟩ => count_loop (s := 8) (N := xt.length) (S := S) (w0 := w) ?_ ?_ ?_ (by intro _; exact ⟨rfl, rfl, trivial⟩) A (h ▸ H))
 ·exact fun k a w' A H => monoN (r17c (vt := .nilIface) A) fun a' w'' ⟨h1, h2⟩ => ⟨h1.val rfl, h1.sub ⟨rfl, rfl, rfl, trivial⟩, h2⟩
 ·intro k a w' hk A H
  cases pt with
  | none => rw [nt rfl] at hk; exact absurd hk (Nat.not_lt_zero _)
  | some p =>
   obtain ⟨hS, n, hc⟩ := gt p rfl k hk
   obtain ⟨m, hm⟩ := H.int hc
   exact monoN (r19b (vt := .nilIface) hk hm A) fun a' w'' ⟨h1, h2⟩ => ⟨h1, h2 ▸ H.store hm hS⟩
 ·exact fun k a w' hk A => r18i (by omega) A
end
theorem spc11 : SpoilsC Try.prog 11 := fun h1 h2 h3 h4 h5 h6 h7 h8 h9 l1 l2 l3 l4 l5 => spoil13 h1 h2 h3 h4 h5 h6 h7 h8 h9 l1 l2 l3 l4 l5
theorem okc11 : EntOk Try.prog 11 spoilC := spoilC_ok (fn := Try.f11) (by kernel_rfl) (by kernel_rfl) sbody_eq spc11
noncomputable def Ec11 : List (Nat × Ent) := (11, spoilC) :: Ec8o
theorem Ec11_ok : EntsOk Try.prog (ofL Ec11) := .cons okc11 Ec8o_ok
abbrev Sc3 : FL := ⟨⟨[], [.env 0 (.c (.fz (.int .u8)))], []⟩, 1, [(.ret, ⟨[], [.env 0 (.c (.bool))], []⟩)], [.tmp 2], false⟩
abbrev lc3_0 : Lay := ⟨[(3, .full 16), (4, .ptr 4 0 6)], [.env 0 (.c (.fz (.int .u8))), .env 5 (.c (.fz (.int .u8))), .env 6 (.c (.int .i64)), .env 7 (.c (.int .i64)), .reg 16 (.row 5 .u8), .reg 4 (.cells [.int .u64, .str, .str, .fz (.int .u8), .fz (.pair (.int .i64) (.pair .bool (.sl (.int .u8)))), .fz (.int .u8)])], [(16, .env 3 0), (4, .env 4 0)]⟩
abbrev oc3_0 : List (AExit × Lay) := [(.ret, ⟨[], [.env 2 (.c (.bool))], []⟩), (.exit 0, ⟨[(3, .full 16)], [.env 0 (.c (.fz (.int .u8))), .reg 16 (.row 5 .u8)], [(16, .env 3 0)]⟩)]
noncomputable def stepc3_0 : (List Int) × (List Int) × Int × Int × List Int × (Int × ByteArray × ByteArray × (List Int) × (List (Int × (Bool × (List Int)))) × (List Int)) -> Option (((List Int) × (List Int) × Int × Int × List Int × (Int × ByteArray × ByteArray × (List Int) × (List (Int × (Bool × (List Int)))) × (List Int))) ⊕ ((Bool) ⊕ ((List Int) × List Int)))
 | (t0, t5, t6, t7, r16, r4) =>
 if (decide (t7 < 2)) = true then
 (Fc8o r16).bind fun ((y4, y5, y6, y7, y8, y9), y10, y11, y12) =>
 (Fc9 ((y4, y5, y6, y7, y8, y9), (r4.1, r4.2.1, r4.2.2.1, r4.2.2.2.1, r4.2.2.2.2.1, r4.2.2.2.2.2))).bind fun y13 =>
 (Fc10 (y10, t5)).bind fun y14 =>
 if (y11 != t6) = false then
 if (!y13) = false then
 if (!y14) = true then
 some (.inr (.inl false))
 else
 if capSmall y7 y8 y9 y10 = true then
 some (.inl (t0, t5, t6, (IntKind.i64.wrap (t7 + 1)), y12, (r4.1, r4.2.1, r4.2.2.1, r4.2.2.2.1, r4.2.2.2.2.1, r4.2.2.2.2.2)))
 else none
 else
 some (.inr (.inl false))
 else
 some (.inr (.inl false))
 else
 some (.inr (.inr (t0, r16)))
noncomputable def Fc3 : (List Int) -> Option ((Bool))
 | a0 =>
 if okBytes ((List.replicate 0 (0 : Int)).length + a0.length) 1 then
 (Fc7 a0).bind fun (y1, y2, y3) =>
 (loopO stepc3_0 (a0, y2, y3, 0, ((List.replicate 0 (0 : Int)) ++ a0), (y1.1, y1.2.1, y1.2.2.1, y1.2.2.2.1, y1.2.2.2.2.1, y1.2.2.2.2.2))).bind fun
 | (.inl z15) =>
 some z15
 | (.inr (z16, z17)) =>
 (Fc10 (z17, z16)).bind fun y18 =>
 (Fc12 ()).bind fun y19 =>
 if y19 = true then
 some y18
 else
 some false
 else none
noncomputable def annc3 : Ann := (.seq .none (.seq .none (.seq .none (.seq (.seq .none (.seq (.cut (cutEnt lc3_0 oc3_0 (loopO (stepc3_0)))) .none)) .none))))
theorem okc3_0 : LOk Try.prog 59 (cutEnt lc3_0 oc3_0 (loopO stepc3_0)) (Code.at' [1, 1, 1, 0, 1, 0] (bd Try.f3)) := by
 have e : Code.at' [1, 1, 1, 0, 1, 0] (bd Try.f3) = .loop (Code.at' [1, 1, 1, 0, 1, 0, 0] (bd Try.f3)) := by kernel_rfl
 rw [e]
 refine loop_ok (ann := .none) (cx Ec11_ok) 59 rfl rfl (annOk_of_cuts nc) (by rintro ⟨t0, t5, t6, t7, r16, r4⟩; kernel_rfl)
theorem callsc3 : CallsL Try.prog 3 Sc3 Fc3 := by
 refine fcalls (fn := Try.f3) (c := (bd Try.f3)) (ann := annc3) (cx Ec11_ok) (by kernel_rfl) (annOk_of_cuts ?_) (by intro x; kernel_rfl)
 exact cut1 (by kernel_rfl) okc3_0
end Go.Abs
