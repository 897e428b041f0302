/- What the functions of chapter 13 come to. -/
import Derived.Test.YtkkamfhppokooaaRAbs3R
import Derived.Test.YtkkamfhppokooaaChecked
import Derived.KernelRfl
set_option linter.unusedVariables false
set_option linter.unusedSimpArgs false
set_option maxRecDepth 100000
open Go.Proofs
namespace Go.Abs
def ctab : Tab := [
 (3, ⟨.int .i64, 1, 8, [.int .i64 0]⟩),
 (4, ⟨.bool, 1, 1, [.bool false]⟩),
 (5, ⟨.int .u8, 1, 1, [.int .u8 0]⟩),
 (9, ⟨.str, 1, 16, [.str ByteArray.empty]⟩),
 (22, ⟨.slice 5, 1, 24, [.val (.slice none 0 0)]⟩),
 (23, ⟨.int .u64, 1, 8, [.int .u64 0]⟩),
 (24, ⟨.slice 45, 1, 24, [.val (.slice none 0 0)]⟩),
 (26, ⟨.struct [(23, 0), (9, 1), (9, 2), (22, 3), (24, 4), (22, 5)], 6, 112, [.int .u64 0, .str ByteArray.empty, .str ByteArray.empty, .val (.slice none 0 0), .val (.slice none 0 0), .val (.slice none 0 0)]⟩),
 (27, ⟨.int .i64, 1, 8, [.int .i64 0]⟩),
 (45, ⟨.struct [(3, 0), (4, 1), (22, 2)], 3, 40, [.int .i64 0, .bool false, .val (.slice none 0 0)]⟩),
 (56, ⟨.slice 58, 1, 24, [.val (.slice none 0 0)]⟩),
 (58, ⟨.struct [(5, 0), (22, 1), (56, 2)], 3, 56, [.int .u8 0, .val (.slice none 0 0), .val (.slice none 0 0)]⟩),
 (75, ⟨.struct [(27, 0)], 1, 8, [.int .i64 0]⟩),
 (86, ⟨.slice 23, 1, 24, [.val (.slice none 0 0)]⟩),
 (101, ⟨.struct [(22, 0)], 1, 24, [.val (.slice none 0 0)]⟩),
 (109, ⟨.map 3 3, 1, 8, [.val (.map none)]⟩),
 (125, ⟨.struct [(27, 0)], 1, 8, [.int .i64 0]⟩)]
theorem ctabOk : TabOk Try.prog ctab := tabChk_ok (by kernel_rfl)
theorem cdep : 4 ≤ (Try.prog).depth := by
 have : Nat.ble 4 ((Try.prog).depth) = true := by kernel_rfl
 exact Nat.le_of_ble_eq_true this
theorem cord : (Try.prog).follows .mixedOrders = true := by kernel_rfl
def cstr1 : ByteArray := ⟨#[50, 48, 48, 48, 48, 49, 48, 49, 48, 48, 48, 48, 48, 48, 90]⟩
def cstr2 : ByteArray := ⟨#[57, 57, 57, 57, 49, 50, 51, 49, 50, 51, 53, 57, 53, 57, 90]⟩
def cstr3 : ByteArray := ⟨#[97]⟩
def cstr4 : ByteArray := ⟨#[98]⟩
noncomputable def cE0 : List (Nat × Ent) := []
theorem cE0_ok : EntsOk Try.prog (ofL cE0) := .nil _
noncomputable def bd (f : Func) : Code := f.body.getD .skip
noncomputable def cx {l : List (Nat × Ent)} (h : EntsOk Try.prog (ofL l)) : Ctx Try.prog := ⟨ctab, ofL l, ctabOk, h, cdep, cord⟩
theorem nc {Q : List Nat × LEnt -> Prop} : ∀ x ∈ ([] : List (List Nat × LEnt)), Q x := fun x h => by simp at h
theorem cut1 {Q : List Nat × LEnt -> Prop} {L : List (List Nat × LEnt)} {p : List Nat} {e : LEnt} (h : L = [(p, e)]) (h1 : Q (p, e)) : ∀ x ∈ L, Q x := by
 subst h; simpa using h1
theorem cut2 {Q : List Nat × LEnt -> Prop} {L : List (List Nat × LEnt)} {p p' : List Nat} {e e' : LEnt} (h : L = [(p, e), (p', e')]) (h1 : Q (p, e)) (h2 : Q (p', e')) : ∀ x ∈ L, Q x := by
 subst h; simpa using ⟨h1, h2⟩
theorem cut3 {Q : List Nat × LEnt -> Prop} {L : List (List Nat × LEnt)} {p p' p2 : List Nat} {e e' e2 : LEnt} (h : L = [(p, e), (p', e'), (p2, e2)]) (h1 : Q (p, e)) (h2 : Q (p', e')) (h3 : Q (p2, e2)) : ∀ x ∈ L, Q x := by
 subst h; simpa using ⟨h1, h2, h3⟩
theorem cons_ok {f : Nat} {fn : Func} {c : Code} {S : FL} {F : S.inT -> Option S.outT} {l : List (Nat × Ent)} (h : (Try.prog.funcs[f]?, (fn.name == "runtime.NumGoroutine"), fn.body, okL S) = (some fn, false, some c, true)) (H : CallsL Try.prog f S F) (hl : EntsOk Try.prog (ofL l)) : EntsOk Try.prog (ofL ((f, funEntL S true F) :: l)) := by
 simp only [Prod.mk.injEq] at h
 exact .cons (fun_okL h.1 h.2.1 h.2.2.1 h.2.2.2 H) hl
theorem fcalls {f : Nat} {fn : Func} {c : Code} {S : FL} {F : S.inT -> Option S.outT} {ann : Ann} (C : Ctx Try.prog) (h : (Try.prog.funcs[f]?, fn.body, fn.results.toList, (Nat.ble S.n fn.ntmps && Nat.ble fn.ntmps ioN && Nat.ble S.res.length ioN), closedOuts S.outs) = (some fn, some c, S.res, true, true))
  (hA : AnnOk Try.prog fn.ntmps c ann) (heq : ∀ x, exec C.T C.E fn.ntmps c ann (finL C.T S) (S.inp.enc x) = F x) : CallsL Try.prog f S F := by
 simp only [Prod.mk.injEq] at h
 exact fun_callsL C h.1 h.2.1 h.2.2.1 h.2.2.2.1 h.2.2.2.2 hA heq
abbrev Sc89 : FL := ⟨⟨[], [.env 0 (.c (.int .u8))], []⟩, 1, [(.ret, ⟨[], [.env 0 (.c (.bool))], []⟩)], [.tmp 2], false⟩
noncomputable def Fc89 : Int -> Option ((Bool))
 | a0 =>
 some ((a0.tmod 32) == 31)
theorem callsc89 : CallsL Try.prog 89 Sc89 Fc89 := by
 refine fcalls (fn := Try.f89) (c := (bd Try.f89)) (ann := .none) (cx cE0_ok) (by kernel_rfl) (annOk_of_cuts nc) (by intro x; kernel_rfl)
noncomputable def Ec89 : List (Nat × Ent) := (89, (funEntL Sc89 true Fc89)) :: cE0
theorem Ec89_ok : EntsOk Try.prog (ofL Ec89) := cons_ok (fn := Try.f89) (c := (bd Try.f89)) (by kernel_rfl) callsc89 cE0_ok
abbrev Sc90 : FL := ⟨⟨[], [.env 0 (.c (.fz (.int .u8))), .env 1 (.c (.int .i64)), .env 2 (.c (.int .i64))], []⟩, 3, [(.ret, ⟨[], [.env 0 (.c (.int .i64)), .env 1 (.c (.int .i64)), .env 2 (.c (.int .i64))], []⟩)], [.tmp 6, .tmp 7, .tmp 8], false⟩
abbrev lc90_0 : Lay := ⟨[], [.env 0 (.c (.fz (.int .u8))), .env 1 (.c (.int .i64)), .env 10 (.c (.int .i64)), .env 11 (.c (.int .i64)), .env 12 (.c (.int .i64))], []⟩
abbrev oc90_0 : List (AExit × Lay) := [(.exit 0, ⟨[], [.env 0 (.c (.fz (.int .u8))), .env 1 (.c (.int .i64)), .env 10 (.c (.int .i64)), .env 11 (.c (.int .i64))], []⟩)]
noncomputable def stepc90_0 : (List Int) × Int × Int × Int × Int -> Option (((List Int) × Int × Int × Int × Int) ⊕ (((List Int) × Int × Int × Int)))
 | (t0, t1, t10, t11, t12) =>
 if (decide (t12 ≤ t10)) = true then
 if (0 : Int) ≤ (IntKind.i64.wrap (t1 + t12)) ∧ (IntKind.i64.wrap (t1 + t12)) < (t0.length : Int) then
 let x3 : Int := (IntKind.i64.wrap (t0.getD (IntKind.i64.wrap (t1 + t12)).toNat 0))
 some (.inl (t0, t1, t10, (IntKind.i64.wrap ((IntKind.i64.wrap (256 * t11)) + x3)), (IntKind.i64.wrap (t12 + 1))))
 else none
 else
 some (.inr (t0, t1, t10, t11))
noncomputable def Fc90 : (List Int) × Int × Int -> Option ((Int × Int × Int))
 | (a0, a1, a2) =>
 if (decide (a1 ≥ a2)) = true then
 some (0, 0, 122)
 else
 if (0 : Int) ≤ a1 ∧ a1 < (a0.length : Int) then
 if (decide ((IntKind.i64.wrap (a0.getD a1.toNat 0)) < 128)) = true then
 some ((IntKind.i64.wrap (a0.getD a1.toNat 0)), (IntKind.i64.wrap (a1 + 1)), 0)
 else
 let x1 : Int := (IntKind.i64.wrap ((IntKind.i64.wrap (a0.getD a1.toNat 0)) - 128))
 if (x1 == 0) = false then
 if (decide (x1 > 3)) = true then
 some (0, 0, 124)
 else
 let x2 : Bool := (decide ((IntKind.i64.wrap ((IntKind.i64.wrap (a2 - a1)) - 1)) < x1))
 if x2 = true then
 some (0, 0, 122)
 else
 (loopO stepc90_0 (a0, a1, x1, 0, 1)).bind fun (z4, z5, z6, z7) =>
 if (0 : Int) ≤ (IntKind.i64.wrap (z5 + 1)) ∧ (IntKind.i64.wrap (z5 + 1)) < (z4.length : Int) then
 if ((z4.getD (IntKind.i64.wrap (z5 + 1)).toNat 0) == 0) = false then
 if (decide (z7 < 128)) = true then
 some (0, 0, 124)
 else
 some (z7, (IntKind.i64.wrap ((IntKind.i64.wrap (z5 + 1)) + z6)), 0)
 else
 some (0, 0, 124)
 else none
 else
 some (0, 0, 124)
 else none
noncomputable def annc90 : Ann := (.seq .none (.seq .none (.seq .none (.seq .none (.seq .none (.seq .none (.seq .none (.seq .none (.seq (.seq .none (.seq (.cut (cutEnt lc90_0 oc90_0 (loopO (stepc90_0)))) .none)) .none)))))))))
theorem okc90_0 : LOk Try.prog 70 (cutEnt lc90_0 oc90_0 (loopO stepc90_0)) (Code.at' [1, 1, 1, 1, 1, 1, 1, 1, 0, 1, 0] (bd Try.f90)) := by
 have e : Code.at' [1, 1, 1, 1, 1, 1, 1, 1, 0, 1, 0] (bd Try.f90) = .loop (Code.at' [1, 1, 1, 1, 1, 1, 1, 1, 0, 1, 0, 0] (bd Try.f90)) := by kernel_rfl
 rw [e]
 refine loop_ok (ann := .none) (cx Ec89_ok) 70 rfl rfl (annOk_of_cuts nc) (by rintro ⟨t0, t1, t10, t11, t12⟩; kernel_rfl)
theorem callsc90 : CallsL Try.prog 90 Sc90 Fc90 := by
 refine fcalls (fn := Try.f90) (c := (bd Try.f90)) (ann := annc90) (cx Ec89_ok) (by kernel_rfl) (annOk_of_cuts ?_) (by rintro ⟨a0, a1, a2⟩; kernel_rfl)
 exact cut1 (by kernel_rfl) okc90_0
noncomputable def Ec90 : List (Nat × Ent) := (90, (funEntL Sc90 true Fc90)) :: Ec89
theorem Ec90_ok : EntsOk Try.prog (ofL Ec90) := cons_ok (fn := Try.f90) (c := (bd Try.f90)) (by kernel_rfl) callsc90 Ec89_ok
abbrev Sc91 : FL := ⟨⟨[], [.env 0 (.c (.int .u8))], []⟩, 1, [(.ret, ⟨[], [.env 0 (.c (.bool))], []⟩)], [.tmp 2], false⟩
noncomputable def Fc91 : Int -> Option ((Bool))
 | a0 =>
 some (((IntKind.u8.wrap (a0.tdiv 32)).tmod 2) == 1)
theorem callsc91 : CallsL Try.prog 91 Sc91 Fc91 := by
 refine fcalls (fn := Try.f91) (c := (bd Try.f91)) (ann := .none) (cx Ec90_ok) (by kernel_rfl) (annOk_of_cuts nc) (by intro x; kernel_rfl)
noncomputable def Ec91 : List (Nat × Ent) := (91, (funEntL Sc91 true Fc91)) :: Ec90
theorem Ec91_ok : EntsOk Try.prog (ofL Ec91) := cons_ok (fn := Try.f91) (c := (bd Try.f91)) (by kernel_rfl) callsc91 Ec90_ok
abbrev Sc55 : FL := ⟨⟨[], [.env 0 (.c (.fz (.int .u8))), .env 1 (.c (.int .i64)), .env 2 (.c (.int .i64)), .env 3 (.c (.int .i64))], []⟩, 4, [(.ret, ⟨[], [.env 0 (.dat .item), .env 1 (.c (.int .i64)), .env 2 (.c (.int .i64))], []⟩)], [.cell 8 58, .tmp 9, .tmp 10], true⟩
noncomputable def cc55 (G : Sc55.inT -> Option Sc55.outT) (hG : CallsL Try.prog 55 Sc55 G) : Ctx Try.prog := ⟨ctab, ofL ((55, funEntL Sc55 true G) :: Ec91), ctabOk, .cons (fun_okL (fn := Try.f55) (c := (bd Try.f55)) (by kernel_rfl) (by kernel_rfl) (by kernel_rfl) (by kernel_rfl) hG) Ec91_ok, cdep, cord⟩
abbrev lc55_0 : Lay := ⟨[(8, .ptr 8 0 3), (11, .ptr 11 0 3)], [.env 0 (.c (.fz (.int .u8))), .env 1 (.c (.int .i64)), .env 3 (.c (.int .i64)), .env 13 (.c (.int .i64)), .env 14 (.c (.int .i64)), .reg 8 (.cells [.int .u8, .nils, .nils]), .reg 11 (.cells [.int .u8, .nils, .full 600706]), .reg 600706 (.rowd 58 .item)], [(8, .env 8 0), (11, .env 11 0), (600706, .reg 11 2)]⟩
abbrev oc55_0 : List (AExit × Lay) := [(.ret, ⟨[(8, .ptr 8 0 3)], [.env 9 (.c (.int .i64)), .env 10 (.c (.int .i64)), .reg 8 (.cells [.int .u8, .nils, .nils])], [(8, .env 8 0)]⟩), (.exit 0, ⟨[(8, .ptr 8 0 3), (11, .ptr 11 0 3)], [.env 1 (.c (.int .i64)), .reg 8 (.cells [.int .u8, .nils, .nils]), .reg 11 (.cells [.int .u8, .nils, .full 600706]), .reg 600706 (.rowd 58 .item)], [(8, .env 8 0), (11, .env 11 0), (600706, .reg 11 2)]⟩)]
noncomputable def stepc55_0 (G : (List Int) × Int × Int × Int -> Option ((Tree × Int × Int))) : (List Int) × Int × Int × Int × Int × (Int × Unit × Unit) × (Int × Unit × Unit) × List Tree -> Option (((List Int) × Int × Int × Int × Int × (Int × Unit × Unit) × (Int × Unit × Unit) × List Tree) ⊕ ((Int × Int × (Int × Unit × Unit)) ⊕ (Int × (Int × Unit × Unit) × (Int × Unit × Unit) × List Tree)))
 | (t0, t1, t3, t13, t14, r8, r11, r600706) =>
 if (decide (t1 < (IntKind.i64.wrap (t14 + t13)))) = true then
 (G (t0, t1, (IntKind.i64.wrap (t14 + t13)), (IntKind.i64.wrap (t3 + 1)))).bind fun (y7, y8, y9) =>
 if (y9 != 0) = true then
 some (.inr (.inl (0, y9, (0, (), ()))))
 else
 if okBytes (r600706.length + ([(Tree.node y7.tag y7.body y7.kids)] : List Tree).length) 56 then
 let f10 : List Tree := (r600706 ++ ([(Tree.node y7.tag y7.body y7.kids)] : List Tree))
 some (.inl (t0, y8, t3, t13, t14, (r8.1, (), ()), (r11.1, (), ()), f10))
 else none
 else
 some (.inr (.inr (t1, (r8.1, (), ()), (r11.1, (), ()), r600706)))
noncomputable def annc55_0 (G : (List Int) × Int × Int × Int -> Option ((Tree × Int × Int))) : Ann := .none
noncomputable def Bc55 (G : (List Int) × Int × Int × Int -> Option ((Tree × Int × Int))) : (List Int) × Int × Int × Int -> Option ((Tree × Int × Int))
 | (a0, a1, a2, a3) =>
 if (decide (a3 > 16)) = true then
 some ((Tree.node 0 ([] : List Int) ([] : List Tree)), 0, 125)
 else
 if (decide (a1 ≥ a2)) = true then
 some ((Tree.node 0 ([] : List Int) ([] : List Tree)), 0, 122)
 else
 if (0 : Int) ≤ a1 ∧ a1 < (a0.length : Int) then
 (Fc89 (a0.getD a1.toNat 0)).bind fun y1 =>
 if y1 = true then
 some ((Tree.node 0 ([] : List Int) ([] : List Tree)), 0, 123)
 else
 (Fc90 (a0, (IntKind.i64.wrap (a1 + 1)), a2)).bind fun (y2, y3, y4) =>
 if (y4 != 0) = true then
 some ((Tree.node 0 ([] : List Int) ([] : List Tree)), 0, y4)
 else
 if (decide (y2 > (IntKind.i64.wrap (a2 - y3)))) = true then
 some ((Tree.node 0 ([] : List Int) ([] : List Tree)), 0, 122)
 else
 (Fc91 (a0.getD a1.toNat 0)).bind fun y5 =>
 if (!y5) = true then
 if (0 : Int) ≤ y3 ∧ y3 ≤ (IntKind.i64.wrap (y3 + y2)) ∧ (IntKind.i64.wrap (y3 + y2)) ≤ (a0.length : Int) then
 if okBytes ((List.replicate 0 (0 : Int)).length + ((a0.drop y3.toNat).take ((IntKind.i64.wrap (y3 + y2)).toNat - y3.toNat)).length) 1 then
 let f6 : List Int := ((List.replicate 0 (0 : Int)) ++ ((a0.drop y3.toNat).take ((IntKind.i64.wrap (y3 + y2)).toNat - y3.toNat)))
 some ((Tree.node (a0.getD a1.toNat 0) f6 ([] : List Tree)), (IntKind.i64.wrap (y3 + y2)), 0)
 else none
 else none
 else
 (loopO (stepc55_0 G) (a0, y3, a3, y2, y3, (0, (), ()), ((a0.getD a1.toNat 0), (), ()), ([] : List Tree))).bind fun
 | (.inl (z11, z12, z13)) =>
 some ((Tree.node z13.1 ([] : List Int) ([] : List Tree)), z11, z12)
 | (.inr (z14, z15, z16, z17)) =>
 some ((Tree.node z16.1 ([] : List Int) z17), z14, 0)
 else none
noncomputable def annc55 (G : (List Int) × Int × Int × Int -> Option ((Tree × Int × Int))) : Ann := (.seq .none (.seq .none (.seq .none (.seq .none (.seq .none (.seq .none (.seq .none (.seq .none (.seq .none (.seq .none (.seq .none (.seq .none (.seq (.seq (.cut (cutEnt lc55_0 oc55_0 (loopO (stepc55_0 G)))) .none) .none)))))))))))))
theorem okc55_0 (G : Sc55.inT -> Option Sc55.outT) (hG : CallsL Try.prog 55 Sc55 G) : LOk Try.prog 105 (cutEnt lc55_0 oc55_0 (loopO (stepc55_0 G))) (Code.at' [1, 1, 1, 1, 1, 1, 1, 1, 1, 1, 1, 1, 0, 0] (bd Try.f55)) := by
 have e : Code.at' [1, 1, 1, 1, 1, 1, 1, 1, 1, 1, 1, 1, 0, 0] (bd Try.f55) = .loop (Code.at' [1, 1, 1, 1, 1, 1, 1, 1, 1, 1, 1, 1, 0, 0, 0] (bd Try.f55)) := by kernel_rfl
 rw [e]
 refine loop_ok (ann := (annc55_0 G)) (cc55 G hG) 105 rfl rfl (annOk_of_cuts nc) (by rintro ⟨t0, t1, t3, t13, t14, r8, r11, r600706⟩; kernel_rfl)
theorem bcallsc55 (G : Sc55.inT -> Option Sc55.outT) (hG : CallsL Try.prog 55 Sc55 G) : CallsL Try.prog 55 Sc55 (Bc55 G) := by
 refine fcalls (fn := Try.f55) (c := (bd Try.f55)) (ann := (annc55 G)) (cc55 G hG) (by kernel_rfl) (annOk_of_cuts ?_) (by rintro ⟨a0, a1, a2, a3⟩; kernel_rfl)
 exact cut1 (by kernel_rfl) (okc55_0 G hG)
noncomputable def FRc55 : Nat -> (List Int) × Int × Int × Int -> Option ((Tree × Int × Int))
 | 0 => fun _ => none
 | k + 1 => Bc55 (FRc55 k)
theorem rcallsc55 : ∀ k, CallsL Try.prog 55 Sc55 (FRc55 k)
 | 0 => fun _ _ _ _ _ _ _ _ h => by cases h
 | k + 1 => bcallsc55 (FRc55 k) (rcallsc55 k)
noncomputable def Fc55 (x : (List Int) × Int × Int × Int) : Option ((Tree × Int × Int)) := FRc55 (20) x
theorem callsc55 : CallsL Try.prog 55 Sc55 Fc55 := fun us x y w fp β h1 h2 h3 h4 => rcallsc55 _ us x y w fp β h1 h2 h3 h4
noncomputable def Ec55 : List (Nat × Ent) := (55, (funEntL Sc55 true Fc55)) :: Ec91
theorem Ec55_ok : EntsOk Try.prog (ofL Ec55) := cons_ok (fn := Try.f55) (c := (bd Try.f55)) (by kernel_rfl) callsc55 Ec91_ok
abbrev Sc27 : FL := ⟨⟨[], [.env 0 (.c (.fz (.int .u8)))], []⟩, 1, [(.ret, ⟨[], [.env 0 (.dat .item), .env 1 (.c (.int .i64))], []⟩)], [.cell 2 58, .tmp 3], true⟩
noncomputable def Fc27 : (List Int) -> Option ((Tree × Int))
 | a0 =>
 if (decide ((a0.length : Int) > 65536)) = true then
 some ((Tree.node 0 ([] : List Int) ([] : List Tree)), 121)
 else
 (Fc55 (a0, 0, (a0.length : Int), 1)).bind fun (y1, y2, y3) =>
 if (y3 != 0) = true then
 some ((Tree.node 0 ([] : List Int) ([] : List Tree)), y3)
 else
 if (decide (y2 < (a0.length : Int))) = true then
 some ((Tree.node 0 ([] : List Int) ([] : List Tree)), 126)
 else
 some ((Tree.node y1.tag y1.body y1.kids), 0)
theorem callsc27 : CallsL Try.prog 27 Sc27 Fc27 := by
 refine fcalls (fn := Try.f27) (c := (bd Try.f27)) (ann := .none) (cx Ec55_ok) (by kernel_rfl) (annOk_of_cuts nc) (by intro x; kernel_rfl)
noncomputable def Ec27 : List (Nat × Ent) := (27, (funEntL Sc27 true Fc27)) :: Ec55
theorem Ec27_ok : EntsOk Try.prog (ofL Ec27) := cons_ok (fn := Try.f27) (c := (bd Try.f27)) (by kernel_rfl) callsc27 Ec55_ok
abbrev Sc28 : FL := ⟨⟨[], [.env 0 (.dat .item), .env 1 (.c (.int .i64))], []⟩, 2, [(.ret, ⟨[], [.env 0 (.dat .item)], []⟩)], [.cell 4 58], true⟩
noncomputable def Fc28 : Tree × Int -> Option ((Tree))
 | (a0, a1) =>
 if (decide (a1 < (a0.kids.length : Int))) = true then
 if (0 : Int) ≤ a1 ∧ a1 < (a0.kids.length : Int) then
 some (Tree.node (a0.kids.getD a1.toNat (DT.dflt .item)).tag (a0.kids.getD a1.toNat (DT.dflt .item)).body (a0.kids.getD a1.toNat (DT.dflt .item)).kids)
 else none
 else
 some (Tree.node 31 ([] : List Int) ([] : List Tree))
theorem callsc28 : CallsL Try.prog 28 Sc28 Fc28 := by
 refine fcalls (fn := Try.f28) (c := (bd Try.f28)) (ann := .none) (cx Ec27_ok) (by kernel_rfl) (annOk_of_cuts nc) (by rintro ⟨a0, a1⟩; kernel_rfl)
noncomputable def Ec28 : List (Nat × Ent) := (28, (funEntL Sc28 true Fc28)) :: Ec27
theorem Ec28_ok : EntsOk Try.prog (ofL Ec28) := cons_ok (fn := Try.f28) (c := (bd Try.f28)) (by kernel_rfl) callsc28 Ec27_ok
abbrev Sc29 : FL := ⟨⟨[], [.env 0 (.dat .item)], []⟩, 1, [(.ret, ⟨[], [.env 0 (.c (.str))], []⟩)], [.tmp 2], false⟩
noncomputable def Fc29 : Tree -> Option ((ByteArray))
 | a0 =>
 (Fc28 ((Tree.node a0.tag a0.body a0.kids), 0)).bind fun y1 =>
 (Fc28 ((Tree.node y1.tag y1.body y1.kids), 0)).bind fun y2 =>
 (Fc28 ((Tree.node y2.tag y2.body y2.kids), 1)).bind fun y3 =>
 some (ofBytes y3.body)
theorem callsc29 : CallsL Try.prog 29 Sc29 Fc29 := by
 refine fcalls (fn := Try.f29) (c := (bd Try.f29)) (ann := .none) (cx Ec28_ok) (by kernel_rfl) (annOk_of_cuts nc) (by intro x; kernel_rfl)
noncomputable def Ec29 : List (Nat × Ent) := (29, (funEntL Sc29 true Fc29)) :: Ec28
theorem Ec29_ok : EntsOk Try.prog (ofL Ec29) := cons_ok (fn := Try.f29) (c := (bd Try.f29)) (by kernel_rfl) callsc29 Ec28_ok
abbrev Sc30 : FL := ⟨⟨[], [.env 0 (.dat .item)], []⟩, 1, [(.ret, ⟨[], [.env 0 (.c (.int .u64)), .env 1 (.c (.int .i64))], []⟩)], [.tmp 2, .tmp 3], false⟩
abbrev lc30_0 : Lay := ⟨[], [.env 4 (.c (.fz (.int .u8))), .env 5 (.c (.int .u64)), .env 6 (.c (.int .i64))], []⟩
abbrev oc30_0 : List (AExit × Lay) := [(.exit 0, ⟨[], [.env 5 (.c (.int .u64))], []⟩)]
noncomputable def stepc30_0 : (List Int) × Int × Int -> Option (((List Int) × Int × Int) ⊕ ((Int)))
 | (t4, t5, t6) =>
 if (decide (t6 < (t4.length : Int))) = true then
 if (0 : Int) ≤ t6 ∧ t6 < (t4.length : Int) then
 let x1 : Int := (IntKind.u64.wrap ((IntKind.u64.wrap (256 * t5)) + (IntKind.u64.wrap (t4.getD t6.toNat 0))))
 some (.inl (t4, x1, (IntKind.i64.wrap (t6 + 1))))
 else none
 else
 some (.inr t5)
noncomputable def Fc30 : Tree -> Option ((Int × Int))
 | a0 =>
 if (a0.tag != 2) = true then
 some (0, 123)
 else
 if ((a0.body.length : Int) == 0) = false then
 if (decide ((a0.kids.length : Int) > 0)) = false then
 if (0 : Int) ≤ (0 : Int) ∧ (0 : Int) < (a0.body.length : Int) then
 if (decide ((a0.body.getD 0 0) ≥ 128)) = false then
 if (decide ((a0.body.length : Int) > 1)) = true then
 if (0 : Int) ≤ (0 : Int) ∧ (0 : Int) < (a0.body.length : Int) then
 if ((a0.body.getD 0 0) == 0) = true then
 if (0 : Int) ≤ (1 : Int) ∧ (1 : Int) < (a0.body.length : Int) then
 if (decide ((a0.body.getD 1 0) < 128)) = true then
 some (0, 127)
 else
 if (0 : Int) ≤ (0 : Int) ∧ (0 : Int) < (a0.body.length : Int) then
 if ((a0.body.getD 0 0) == 0) = true then
 if (0 : Int) ≤ (1 : Int) ∧ (1 : Int) ≤ (a0.body.length : Int) then
 if (decide (((a0.body.drop 1).length : Int) > 8)) = true then
 some (0, 127)
 else
 (loopO stepc30_0 ((a0.body.drop 1), 0, 0)).bind fun z2 =>
 some (z2, 0)
 else none
 else
 if (decide ((a0.body.length : Int) > 8)) = true then
 some (0, 127)
 else
 (loopO stepc30_0 (a0.body, 0, 0)).bind fun z3 =>
 some (z3, 0)
 else none
 else none
 else
 if (0 : Int) ≤ (0 : Int) ∧ (0 : Int) < (a0.body.length : Int) then
 if ((a0.body.getD 0 0) == 0) = true then
 if (0 : Int) ≤ (1 : Int) ∧ (1 : Int) ≤ (a0.body.length : Int) then
 if (decide (((a0.body.drop 1).length : Int) > 8)) = true then
 some (0, 127)
 else
 (loopO stepc30_0 ((a0.body.drop 1), 0, 0)).bind fun z4 =>
 some (z4, 0)
 else none
 else
 if (decide ((a0.body.length : Int) > 8)) = true then
 some (0, 127)
 else
 (loopO stepc30_0 (a0.body, 0, 0)).bind fun z5 =>
 some (z5, 0)
 else none
 else none
 else
 if (0 : Int) ≤ (0 : Int) ∧ (0 : Int) < (a0.body.length : Int) then
 if ((a0.body.getD 0 0) == 0) = true then
 if (0 : Int) ≤ (1 : Int) ∧ (1 : Int) ≤ (a0.body.length : Int) then
 if (decide (((a0.body.drop 1).length : Int) > 8)) = true then
 some (0, 127)
 else
 (loopO stepc30_0 ((a0.body.drop 1), 0, 0)).bind fun z6 =>
 some (z6, 0)
 else none
 else
 if (decide ((a0.body.length : Int) > 8)) = true then
 some (0, 127)
 else
 (loopO stepc30_0 (a0.body, 0, 0)).bind fun z7 =>
 some (z7, 0)
 else none
 else
 some (0, 127)
 else none
 else
 some (0, 127)
 else
 some (0, 127)
noncomputable def annc30 : Ann := (.seq .none (.seq .none (.seq .none (.seq .none (.seq .none (.seq .none (.seq .none (.seq (.seq .none (.seq (.cut (cutEnt lc30_0 oc30_0 (loopO (stepc30_0)))) .none)) .none))))))))
theorem okc30_0 : LOk Try.prog 68 (cutEnt lc30_0 oc30_0 (loopO stepc30_0)) (Code.at' [1, 1, 1, 1, 1, 1, 1, 0, 1, 0] (bd Try.f30)) := by
 have e : Code.at' [1, 1, 1, 1, 1, 1, 1, 0, 1, 0] (bd Try.f30) = .loop (Code.at' [1, 1, 1, 1, 1, 1, 1, 0, 1, 0, 0] (bd Try.f30)) := by kernel_rfl
 rw [e]
 refine loop_ok (ann := .none) (cx Ec29_ok) 68 rfl rfl (annOk_of_cuts nc) (by rintro ⟨t4, t5, t6⟩; kernel_rfl)
theorem callsc30 : CallsL Try.prog 30 Sc30 Fc30 := by
 refine fcalls (fn := Try.f30) (c := (bd Try.f30)) (ann := annc30) (cx Ec29_ok) (by kernel_rfl) (annOk_of_cuts ?_) (by intro x; kernel_rfl)
 exact cut1 (by kernel_rfl) okc30_0
noncomputable def Ec30 : List (Nat × Ent) := (30, (funEntL Sc30 true Fc30)) :: Ec29
theorem Ec30_ok : EntsOk Try.prog (ofL Ec30) := cons_ok (fn := Try.f30) (c := (bd Try.f30)) (by kernel_rfl) callsc30 Ec29_ok
abbrev Sc31 : FL := ⟨⟨[], [.env 0 (.dat .item)], []⟩, 1, [(.ret, ⟨[], [.env 0 (.c (.fz (.int .u8))), .env 1 (.c (.int .i64))], []⟩)], [.tmp 2, .tmp 3], true⟩
noncomputable def Fc31 : Tree -> Option (((List Int) × Int))
 | a0 =>
 if (a0.tag != 3) = true then
 some (([] : List Int), 123)
 else
 if ((a0.body.length : Int) == 0) = false then
 if (0 : Int) ≤ (0 : Int) ∧ (0 : Int) < (a0.body.length : Int) then
 if ((a0.body.getD 0 0) != 0) = false then
 if (decide ((a0.kids.length : Int) > 0)) = true then
 some (([] : List Int), 127)
 else
 if (0 : Int) ≤ (1 : Int) ∧ (1 : Int) ≤ (a0.body.length : Int) then
 if okBytes ((List.replicate 0 (0 : Int)).length + (a0.body.drop 1).length) 1 then
 some (((List.replicate 0 (0 : Int)) ++ (a0.body.drop 1)), 0)
 else none
 else none
 else
 some (([] : List Int), 127)
 else none
 else
 some (([] : List Int), 127)
theorem callsc31 : CallsL Try.prog 31 Sc31 Fc31 := by
 refine fcalls (fn := Try.f31) (c := (bd Try.f31)) (ann := .none) (cx Ec30_ok) (by kernel_rfl) (annOk_of_cuts nc) (by intro x; kernel_rfl)
noncomputable def Ec31 : List (Nat × Ent) := (31, (funEntL Sc31 true Fc31)) :: Ec30
theorem Ec31_ok : EntsOk Try.prog (ofL Ec31) := cons_ok (fn := Try.f31) (c := (bd Try.f31)) (by kernel_rfl) callsc31 Ec30_ok
abbrev Sc109 : FL := ⟨⟨[], [.env 0 (.c (.int .u64))], []⟩, 1, [(.ret, ⟨[(0, .full 1)], [.reg 1 (.row 5 .u8)], [(1, .env 0 0)]⟩)], [.tmp 2], false⟩
abbrev lc109_0 : Lay := ⟨[(3, .full 7)], [.env 0 (.c (.int .u64)), .reg 7 (.row 5 .u8)], [(7, .env 3 0)]⟩
abbrev oc109_0 : List (AExit × Lay) := [(.exit 0, ⟨[(3, .full 7)], [.reg 7 (.row 5 .u8)], [(7, .env 3 0)]⟩)]
noncomputable def stepc109_0 : Int × List Int -> Option ((Int × List Int) ⊕ ((List Int)))
 | (t0, r7) =>
 if (decide (t0 > 0)) = true then
 let f2 : List Int := ((List.replicate 1 (0 : Int)).set 0 (IntKind.u8.wrap ((IntKind.u8.wrap (t0.tmod 128)) + 128)))
 if okBytes (f2.length + r7.length) 1 then
 some (.inl ((IntKind.u64.wrap (t0.tdiv 128)), (f2 ++ r7)))
 else none
 else
 some (.inr r7)
noncomputable def Fc109 : Int -> Option ((List Int))
 | a0 =>
 let f1 : List Int := ((List.replicate 1 (0 : Int)).set 0 (IntKind.u8.wrap (a0.tmod 128)))
 (loopO stepc109_0 ((IntKind.u64.wrap (a0.tdiv 128)), f1)).bind fun z3 =>
 some z3
noncomputable def annc109 : Ann := (.seq .none (.seq .none (.seq (.seq .none (.seq (.cut (cutEnt lc109_0 oc109_0 (loopO (stepc109_0)))) .none)) .none)))
theorem okc109_0 : LOk Try.prog 22 (cutEnt lc109_0 oc109_0 (loopO stepc109_0)) (Code.at' [1, 1, 0, 1, 0] (bd Try.f109)) := by
 have e : Code.at' [1, 1, 0, 1, 0] (bd Try.f109) = .loop (Code.at' [1, 1, 0, 1, 0, 0] (bd Try.f109)) := by kernel_rfl
 rw [e]
 refine loop_ok (ann := .none) (cx Ec31_ok) 22 rfl rfl (annOk_of_cuts nc) (by rintro ⟨t0, r7⟩; kernel_rfl)
theorem callsc109 : CallsL Try.prog 109 Sc109 Fc109 := by
 refine fcalls (fn := Try.f109) (c := (bd Try.f109)) (ann := annc109) (cx Ec31_ok) (by kernel_rfl) (annOk_of_cuts ?_) (by intro x; kernel_rfl)
 exact cut1 (by kernel_rfl) okc109_0
noncomputable def Ec109 : List (Nat × Ent) := (109, (funEntL Sc109 true Fc109)) :: Ec31
theorem Ec109_ok : EntsOk Try.prog (ofL Ec109) := cons_ok (fn := Try.f109) (c := (bd Try.f109)) (by kernel_rfl) callsc109 Ec31_ok
abbrev Sc92 : FL := ⟨⟨[], [.env 0 (.c (.fz (.int .u64)))], []⟩, 1, [(.ret, ⟨[], [.env 0 (.dat .item), .env 1 (.c (.int .i64))], []⟩)], [.cell 2 58, .tmp 3], true⟩
abbrev lc92_0 : Lay := ⟨[(2, .ptr 2 0 3), (4, .full 1052)], [.env 0 (.c (.fz (.int .u64))), .env 5 (.c (.int .i64)), .reg 2 (.cells [.int .u8, .nils, .nils]), .reg 1052 (.row 5 .u8)], [(2, .env 2 0), (1052, .env 4 0)]⟩
abbrev oc92_0 : List (AExit × Lay) := [(.ret, ⟨[(2, .ptr 2 0 3)], [.env 3 (.c (.int .i64)), .reg 2 (.cells [.int .u8, .nils, .nils])], [(2, .env 2 0)]⟩), (.exit 0, ⟨[(2, .ptr 2 0 3), (4, .full 1052)], [.reg 2 (.cells [.int .u8, .nils, .nils]), .reg 1052 (.row 5 .u8)], [(2, .env 2 0), (1052, .env 4 0)]⟩)]
noncomputable def stepc92_0 : (List Int) × Int × (Int × Unit × Unit) × List Int -> Option (((List Int) × Int × (Int × Unit × Unit) × List Int) ⊕ ((Int × (Int × Unit × Unit)) ⊕ ((Int × Unit × Unit) × List Int)))
 | (t0, t5, r2, r1052) =>
 if (decide (t5 < (t0.length : Int))) = true then
 if (0 : Int) ≤ t5 ∧ t5 < (t0.length : Int) then
 if (decide ((t0.getD t5.toNat 0) > 4294967295)) = true then
 some (.inr (.inl (127, (0, (), ()))))
 else
 if (0 : Int) ≤ t5 ∧ t5 < (t0.length : Int) then
 (Fc109 (t0.getD t5.toNat 0)).bind fun y4 =>
 if okBytes (r1052.length + y4.length) 1 then
 some (.inl (t0, (IntKind.i64.wrap (t5 + 1)), (r2.1, (), ()), (r1052 ++ y4)))
 else none
 else none
 else none
 else
 some (.inr (.inr ((r2.1, (), ()), r1052)))
noncomputable def Fc92 : (List Int) -> Option ((Tree × Int))
 | a0 =>
 if (decide ((a0.length : Int) < 2)) = false then
 if (decide ((a0.length : Int) > 20)) = false then
 if (0 : Int) ≤ (0 : Int) ∧ (0 : Int) < (a0.length : Int) then
 if (decide ((a0.getD 0 0) > 2)) = false then
 if (0 : Int) ≤ (0 : Int) ∧ (0 : Int) < (a0.length : Int) then
 if (decide ((a0.getD 0 0) < 2)) = true then
 if (0 : Int) ≤ (1 : Int) ∧ (1 : Int) < (a0.length : Int) then
 if (decide ((a0.getD 1 0) > 39)) = false then
 if (0 : Int) ≤ (1 : Int) ∧ (1 : Int) < (a0.length : Int) then
 if (0 : Int) ≤ (0 : Int) ∧ (0 : Int) < (a0.length : Int) then
 let x1 : Int := (IntKind.u64.wrap (4294967295 - (IntKind.u64.wrap (40 * (a0.getD 0 0)))))
 if (decide ((a0.getD 1 0) > x1)) = true then
 some ((Tree.node 0 ([] : List Int) ([] : List Tree)), 127)
 else
 if (0 : Int) ≤ (0 : Int) ∧ (0 : Int) < (a0.length : Int) then
 if (0 : Int) ≤ (1 : Int) ∧ (1 : Int) < (a0.length : Int) then
 let x2 : Int := (IntKind.u64.wrap ((IntKind.u64.wrap (40 * (a0.getD 0 0))) + (a0.getD 1 0)))
 (Fc109 x2).bind fun y3 =>
 (loopO stepc92_0 (a0, 2, (0, (), ()), y3)).bind fun
 | (.inl (z5, z6)) =>
 some ((Tree.node z6.1 ([] : List Int) ([] : List Tree)), z5)
 | (.inr (z7, z8)) =>
 some ((Tree.node 6 z8 ([] : List Tree)), 0)
 else none
 else none
 else none
 else none
 else
 some ((Tree.node 0 ([] : List Int) ([] : List Tree)), 127)
 else none
 else
 if (0 : Int) ≤ (1 : Int) ∧ (1 : Int) < (a0.length : Int) then
 if (0 : Int) ≤ (0 : Int) ∧ (0 : Int) < (a0.length : Int) then
 let x9 : Int := (IntKind.u64.wrap (4294967295 - (IntKind.u64.wrap (40 * (a0.getD 0 0)))))
 if (decide ((a0.getD 1 0) > x9)) = true then
 some ((Tree.node 0 ([] : List Int) ([] : List Tree)), 127)
 else
 if (0 : Int) ≤ (0 : Int) ∧ (0 : Int) < (a0.length : Int) then
 if (0 : Int) ≤ (1 : Int) ∧ (1 : Int) < (a0.length : Int) then
 let x10 : Int := (IntKind.u64.wrap ((IntKind.u64.wrap (40 * (a0.getD 0 0))) + (a0.getD 1 0)))
 (Fc109 x10).bind fun y11 =>
 (loopO stepc92_0 (a0, 2, (0, (), ()), y11)).bind fun
 | (.inl (z12, z13)) =>
 some ((Tree.node z13.1 ([] : List Int) ([] : List Tree)), z12)
 | (.inr (z14, z15)) =>
 some ((Tree.node 6 z15 ([] : List Tree)), 0)
 else none
 else none
 else none
 else none
 else none
 else
 some ((Tree.node 0 ([] : List Int) ([] : List Tree)), 127)
 else none
 else
 some ((Tree.node 0 ([] : List Int) ([] : List Tree)), 127)
 else
 some ((Tree.node 0 ([] : List Int) ([] : List Tree)), 127)
noncomputable def annc92 : Ann := (.seq .none (.seq .none (.seq .none (.seq (.seq .none (.seq (.cut (cutEnt lc92_0 oc92_0 (loopO (stepc92_0)))) .none)) .none))))
theorem okc92_0 : LOk Try.prog 74 (cutEnt lc92_0 oc92_0 (loopO stepc92_0)) (Code.at' [1, 1, 1, 0, 1, 0] (bd Try.f92)) := by
 have e : Code.at' [1, 1, 1, 0, 1, 0] (bd Try.f92) = .loop (Code.at' [1, 1, 1, 0, 1, 0, 0] (bd Try.f92)) := by kernel_rfl
 rw [e]
 refine loop_ok (ann := .none) (cx Ec109_ok) 74 rfl rfl (annOk_of_cuts nc) (by rintro ⟨t0, t5, r2, r1052⟩; kernel_rfl)
theorem callsc92 : CallsL Try.prog 92 Sc92 Fc92 := by
 refine fcalls (fn := Try.f92) (c := (bd Try.f92)) (ann := annc92) (cx Ec109_ok) (by kernel_rfl) (annOk_of_cuts ?_) (by intro x; kernel_rfl)
 exact cut1 (by kernel_rfl) okc92_0
theorem entc92 : EntOk Try.prog 92 (funEntL Sc92 true Fc92) := fun_okL (fn := Try.f92) (c := (bd Try.f92)) (by kernel_rfl) (by kernel_rfl) (by kernel_rfl) (by kernel_rfl) callsc92
noncomputable def Ec92 : List (Nat × Ent) := (92, (funEntL Sc92 true Fc92)) :: Ec109
theorem Ec92_ok : EntsOk Try.prog (ofL Ec92) := .cons entc92 Ec109_ok
abbrev Sc92r : FL := ⟨⟨[(0, .full 1000000)], [.reg 1000000 (.row 23 .u64)], [(1000000, .env 0 0)]⟩, 1, [(.ret, ⟨[], [.env 0 (.dat .item), .env 1 (.c (.int .i64)), .reg 1000000 (.row 23 .u64)], []⟩)], [.cell 2 58, .tmp 3], true⟩
abbrev lc92r_0 : Lay := ⟨[(0, .full 1000000), (2, .ptr 2 0 3), (4, .full 1052)], [.env 5 (.c (.int .i64)), .reg 1000000 (.row 23 .u64), .reg 2 (.cells [.int .u8, .nils, .nils]), .reg 1052 (.row 5 .u8)], [(2, .env 2 0), (1052, .env 4 0)]⟩
abbrev oc92r_0 : List (AExit × Lay) := [(.ret, ⟨[(2, .ptr 2 0 3)], [.env 3 (.c (.int .i64)), .reg 2 (.cells [.int .u8, .nils, .nils]), .reg 1000000 (.row 23 .u64)], [(2, .env 2 0)]⟩), (.exit 0, ⟨[(2, .ptr 2 0 3), (4, .full 1052)], [.reg 2 (.cells [.int .u8, .nils, .nils]), .reg 1052 (.row 5 .u8), .reg 1000000 (.row 23 .u64)], [(2, .env 2 0), (1052, .env 4 0)]⟩)]
noncomputable def stepc92r_0 : Int × List Int × (Int × Unit × Unit) × List Int -> Option ((Int × List Int × (Int × Unit × Unit) × List Int) ⊕ ((Int × (Int × Unit × Unit) × List Int) ⊕ ((Int × Unit × Unit) × List Int × List Int)))
 | (t5, r1000000, r2, r1052) =>
 if (decide (t5 < (r1000000.length : Int))) = true then
 if (0 : Int) ≤ t5 ∧ t5 < (r1000000.length : Int) then
 if (decide ((r1000000.getD t5.toNat 0) > 4294967295)) = true then
 some (.inr (.inl (127, (0, (), ()), r1000000)))
 else
 if (0 : Int) ≤ t5 ∧ t5 < (r1000000.length : Int) then
 (Fc109 (r1000000.getD t5.toNat 0)).bind fun y4 =>
 if okBytes (r1052.length + y4.length) 1 then
 some (.inl ((IntKind.i64.wrap (t5 + 1)), r1000000, (r2.1, (), ()), (r1052 ++ y4)))
 else none
 else none
 else none
 else
 some (.inr (.inr ((r2.1, (), ()), r1052, r1000000)))
noncomputable def Fc92r : List Int -> Option ((Tree × Int × List Int))
 | a0 =>
 if (decide ((a0.length : Int) < 2)) = false then
 if (decide ((a0.length : Int) > 20)) = false then
 if (0 : Int) ≤ (0 : Int) ∧ (0 : Int) < (a0.length : Int) then
 if (decide ((a0.getD 0 0) > 2)) = false then
 if (0 : Int) ≤ (0 : Int) ∧ (0 : Int) < (a0.length : Int) then
 if (decide ((a0.getD 0 0) < 2)) = true then
 if (0 : Int) ≤ (1 : Int) ∧ (1 : Int) < (a0.length : Int) then
 if (decide ((a0.getD 1 0) > 39)) = false then
 if (0 : Int) ≤ (1 : Int) ∧ (1 : Int) < (a0.length : Int) then
 if (0 : Int) ≤ (0 : Int) ∧ (0 : Int) < (a0.length : Int) then
 let x1 : Int := (IntKind.u64.wrap (4294967295 - (IntKind.u64.wrap (40 * (a0.getD 0 0)))))
 if (decide ((a0.getD 1 0) > x1)) = true then
 some ((Tree.node 0 ([] : List Int) ([] : List Tree)), 127, a0)
 else
 if (0 : Int) ≤ (0 : Int) ∧ (0 : Int) < (a0.length : Int) then
 if (0 : Int) ≤ (1 : Int) ∧ (1 : Int) < (a0.length : Int) then
 let x2 : Int := (IntKind.u64.wrap ((IntKind.u64.wrap (40 * (a0.getD 0 0))) + (a0.getD 1 0)))
 (Fc109 x2).bind fun y3 =>
 (loopO stepc92r_0 (2, a0, (0, (), ()), y3)).bind fun
 | (.inl (z5, z6, z7)) =>
 some ((Tree.node z6.1 ([] : List Int) ([] : List Tree)), z5, z7)
 | (.inr (z8, z9, z10)) =>
 some ((Tree.node 6 z9 ([] : List Tree)), 0, z10)
 else none
 else none
 else none
 else none
 else
 some ((Tree.node 0 ([] : List Int) ([] : List Tree)), 127, a0)
 else none
 else
 if (0 : Int) ≤ (1 : Int) ∧ (1 : Int) < (a0.length : Int) then
 if (0 : Int) ≤ (0 : Int) ∧ (0 : Int) < (a0.length : Int) then
 let x11 : Int := (IntKind.u64.wrap (4294967295 - (IntKind.u64.wrap (40 * (a0.getD 0 0)))))
 if (decide ((a0.getD 1 0) > x11)) = true then
 some ((Tree.node 0 ([] : List Int) ([] : List Tree)), 127, a0)
 else
 if (0 : Int) ≤ (0 : Int) ∧ (0 : Int) < (a0.length : Int) then
 if (0 : Int) ≤ (1 : Int) ∧ (1 : Int) < (a0.length : Int) then
 let x12 : Int := (IntKind.u64.wrap ((IntKind.u64.wrap (40 * (a0.getD 0 0))) + (a0.getD 1 0)))
 (Fc109 x12).bind fun y13 =>
 (loopO stepc92r_0 (2, a0, (0, (), ()), y13)).bind fun
 | (.inl (z14, z15, z16)) =>
 some ((Tree.node z15.1 ([] : List Int) ([] : List Tree)), z14, z16)
 | (.inr (z17, z18, z19)) =>
 some ((Tree.node 6 z18 ([] : List Tree)), 0, z19)
 else none
 else none
 else none
 else none
 else none
 else
 some ((Tree.node 0 ([] : List Int) ([] : List Tree)), 127, a0)
 else none
 else
 some ((Tree.node 0 ([] : List Int) ([] : List Tree)), 127, a0)
 else
 some ((Tree.node 0 ([] : List Int) ([] : List Tree)), 127, a0)
noncomputable def annc92r : Ann := (.seq .none (.seq .none (.seq .none (.seq (.seq .none (.seq (.cut (cutEnt lc92r_0 oc92r_0 (loopO (stepc92r_0)))) .none)) .none))))
theorem okc92r_0 : LOk Try.prog 74 (cutEnt lc92r_0 oc92r_0 (loopO stepc92r_0)) (Code.at' [1, 1, 1, 0, 1, 0] (bd Try.f92)) := by
 have e : Code.at' [1, 1, 1, 0, 1, 0] (bd Try.f92) = .loop (Code.at' [1, 1, 1, 0, 1, 0, 0] (bd Try.f92)) := by kernel_rfl
 rw [e]
 refine loop_ok (ann := .none) (cx Ec92_ok) 74 rfl rfl (annOk_of_cuts nc) (by rintro ⟨t5, r1000000, r2, r1052⟩; kernel_rfl)
theorem callsc92r : CallsL Try.prog 92 Sc92r Fc92r := by
 refine fcalls (fn := Try.f92) (c := (bd Try.f92)) (ann := annc92r) (cx Ec92_ok) (by kernel_rfl) (annOk_of_cuts ?_) (by intro x; kernel_rfl)
 exact cut1 (by kernel_rfl) okc92r_0
theorem entc92r : EntOk Try.prog 92 (funEntL Sc92r true Fc92r) := fun_okL (fn := Try.f92) (c := (bd Try.f92)) (by kernel_rfl) (by kernel_rfl) (by kernel_rfl) (by kernel_rfl) callsc92r
noncomputable def Ec92r : List (Nat × Ent) := (92, (entOr (canIn Sc92r) (funEntL Sc92r true Fc92r) (funEntL Sc92 true Fc92))) :: Ec92
theorem Ec92r_ok : EntsOk Try.prog (ofL Ec92r) := .cons (entOr_ok entc92r entc92) Ec92_ok
abbrev Sc33 : FL := ⟨⟨[], [.env 0 (.dat .item), .env 1 (.dat .item)], []⟩, 2, [(.ret, ⟨[], [.env 0 (.c (.bool))], []⟩)], [.tmp 4], false⟩
noncomputable def cc33 (G : Sc33.inT -> Option Sc33.outT) (hG : CallsL Try.prog 33 Sc33 G) : Ctx Try.prog := ⟨ctab, ofL ((33, funEntL Sc33 true G) :: Ec92r), ctabOk, .cons (fun_okL (fn := Try.f33) (c := (bd Try.f33)) (by kernel_rfl) (by kernel_rfl) (by kernel_rfl) (by kernel_rfl) hG) Ec92r_ok, cdep, cord⟩
abbrev lc33_0 : Lay := ⟨[(2, .ptr 2 0 3), (3, .ptr 3 0 3)], [.env 5 (.c (.int .i64)), .reg 2 (.cells [.int .u8, .fz (.int .u8), .fz .item]), .reg 3 (.cells [.int .u8, .fz (.int .u8), .fz .item])], [(2, .env 2 0), (3, .env 3 0)]⟩
abbrev oc33_0 : List (AExit × Lay) := [(.ret, ⟨[], [.env 4 (.c (.bool))], []⟩), (.exit 0, ⟨[(2, .ptr 2 0 3), (3, .ptr 3 0 3)], [.reg 2 (.cells [.int .u8, .fz (.int .u8), .fz .item]), .reg 3 (.cells [.int .u8, .fz (.int .u8), .fz .item])], [(2, .env 2 0), (3, .env 3 0)]⟩)]
noncomputable def stepc33_0 (G : Tree × Tree -> Option ((Bool))) : Int × (Int × (List Int) × (List Tree)) × (Int × (List Int) × (List Tree)) -> Option ((Int × (Int × (List Int) × (List Tree)) × (Int × (List Int) × (List Tree))) ⊕ ((Bool) ⊕ ((Int × (List Int) × (List Tree)) × (Int × (List Int) × (List Tree)))))
 | (t5, r2, r3) =>
 if (decide (t5 < (r2.2.1.length : Int))) = true then
 if (0 : Int) ≤ t5 ∧ t5 < (r2.2.1.length : Int) then
 if (0 : Int) ≤ t5 ∧ t5 < (r3.2.1.length : Int) then
 if ((r2.2.1.getD t5.toNat 0) != (r3.2.1.getD t5.toNat 0)) = true then
 some (.inr (.inl false))
 else
 some (.inl ((IntKind.i64.wrap (t5 + 1)), (r2.1, r2.2.1, r2.2.2), (r3.1, r3.2.1, r3.2.2)))
 else none
 else none
 else
 some (.inr (.inr ((r2.1, r2.2.1, r2.2.2), (r3.1, r3.2.1, r3.2.2))))
noncomputable def annc33_0 (G : Tree × Tree -> Option ((Bool))) : Ann := .none
abbrev lc33_1 : Lay := ⟨[(2, .ptr 2 0 3), (3, .ptr 3 0 3)], [.env 6 (.c (.int .i64)), .reg 2 (.cells [.int .u8, .fz (.int .u8), .fz .item]), .reg 3 (.cells [.int .u8, .fz (.int .u8), .fz .item])], [(2, .env 2 0), (3, .env 3 0)]⟩
abbrev oc33_1 : List (AExit × Lay) := [(.ret, ⟨[], [.env 4 (.c (.bool))], []⟩), (.exit 2, ⟨[], [], []⟩)]
noncomputable def stepc33_1 (G : Tree × Tree -> Option ((Bool))) : Int × (Int × (List Int) × (List Tree)) × (Int × (List Int) × (List Tree)) -> Option ((Int × (Int × (List Int) × (List Tree)) × (Int × (List Int) × (List Tree))) ⊕ ((Bool) ⊕ (Unit)))
 | (t6, r2, r3) =>
 if (decide (t6 < (r2.2.2.length : Int))) = true then
 if (0 : Int) ≤ t6 ∧ t6 < (r2.2.2.length : Int) then
 if (0 : Int) ≤ t6 ∧ t6 < (r3.2.2.length : Int) then
 (G ((Tree.node (r2.2.2.getD t6.toNat (DT.dflt .item)).tag (r2.2.2.getD t6.toNat (DT.dflt .item)).body (r2.2.2.getD t6.toNat (DT.dflt .item)).kids), (Tree.node (r3.2.2.getD t6.toNat (DT.dflt .item)).tag (r3.2.2.getD t6.toNat (DT.dflt .item)).body (r3.2.2.getD t6.toNat (DT.dflt .item)).kids))).bind fun y4 =>
 if (!y4) = true then
 some (.inr (.inl false))
 else
 some (.inl ((IntKind.i64.wrap (t6 + 1)), (r2.1, r2.2.1, r2.2.2), (r3.1, r3.2.1, r3.2.2)))
 else none
 else none
 else
 some (.inr (.inr ()))
noncomputable def annc33_1 (G : Tree × Tree -> Option ((Bool))) : Ann := .none
noncomputable def Bc33 (G : Tree × Tree -> Option ((Bool))) : Tree × Tree -> Option ((Bool))
 | (a0, a1) =>
 if (a0.tag != a1.tag) = false then
 if ((a0.body.length : Int) != (a1.body.length : Int)) = false then
 if ((a0.kids.length : Int) != (a1.kids.length : Int)) = true then
 some false
 else
 (loopO (stepc33_0 G) (0, (a0.tag, a0.body, a0.kids), (a1.tag, a1.body, a1.kids))).bind fun
 | (.inl z1) =>
 some z1
 | (.inr (z2, z3)) =>
 (loopO (stepc33_1 G) (0, (z2.1, z2.2.1, z2.2.2), (z3.1, z3.2.1, z3.2.2))).bind fun
 | (.inl z5) =>
 some z5
 | (.inr _) =>
 some true
 else
 some false
 else
 some false
noncomputable def annc33 (G : Tree × Tree -> Option ((Bool))) : Ann := (.seq .none (.seq .none (.seq (.seq .none (.seq (.cut (cutEnt lc33_0 oc33_0 (loopO (stepc33_0 G)))) .none)) (.seq (.seq .none (.seq (.cut (cutEnt lc33_1 oc33_1 (loopO (stepc33_1 G)))) .none)) .none))))
theorem okc33_0 (G : Sc33.inT -> Option Sc33.outT) (hG : CallsL Try.prog 33 Sc33 G) : LOk Try.prog 69 (cutEnt lc33_0 oc33_0 (loopO (stepc33_0 G))) (Code.at' [1, 1, 0, 1, 0] (bd Try.f33)) := by
 have e : Code.at' [1, 1, 0, 1, 0] (bd Try.f33) = .loop (Code.at' [1, 1, 0, 1, 0, 0] (bd Try.f33)) := by kernel_rfl
 rw [e]
 refine loop_ok (ann := (annc33_0 G)) (cc33 G hG) 69 rfl rfl (annOk_of_cuts nc) (by rintro ⟨t5, r2, r3⟩; kernel_rfl)
theorem okc33_1 (G : Sc33.inT -> Option Sc33.outT) (hG : CallsL Try.prog 33 Sc33 G) : LOk Try.prog 69 (cutEnt lc33_1 oc33_1 (loopO (stepc33_1 G))) (Code.at' [1, 1, 1, 0, 1, 0] (bd Try.f33)) := by
 have e : Code.at' [1, 1, 1, 0, 1, 0] (bd Try.f33) = .loop (Code.at' [1, 1, 1, 0, 1, 0, 0] (bd Try.f33)) := by kernel_rfl
 rw [e]
 refine loop_ok (ann := (annc33_1 G)) (cc33 G hG) 69 rfl rfl (annOk_of_cuts nc) (by rintro ⟨t6, r2, r3⟩; kernel_rfl)
theorem bcallsc33 (G : Sc33.inT -> Option Sc33.outT) (hG : CallsL Try.prog 33 Sc33 G) : CallsL Try.prog 33 Sc33 (Bc33 G) := by
 refine fcalls (fn := Try.f33) (c := (bd Try.f33)) (ann := (annc33 G)) (cc33 G hG) (by kernel_rfl) (annOk_of_cuts ?_) (by rintro ⟨a0, a1⟩; kernel_rfl)
 exact cut2 (by kernel_rfl) (okc33_0 G hG) (okc33_1 G hG)
noncomputable def FRc33 : Nat -> Tree × Tree -> Option ((Bool))
 | 0 => fun _ => none
 | k + 1 => Bc33 (FRc33 k)
theorem rcallsc33 : ∀ k, CallsL Try.prog 33 Sc33 (FRc33 k)
 | 0 => fun _ _ _ _ _ _ _ _ h => by cases h
 | k + 1 => bcallsc33 (FRc33 k) (rcallsc33 k)
noncomputable def Fc33 (x : Tree × Tree) : Option ((Bool)) := FRc33 (Tree.rank x.1 + 1) x
theorem callsc33 : CallsL Try.prog 33 Sc33 Fc33 := fun us x y w fp β h1 h2 h3 h4 => rcallsc33 _ us x y w fp β h1 h2 h3 h4
noncomputable def Ec33 : List (Nat × Ent) := (33, (funEntL Sc33 true Fc33)) :: Ec92r
theorem Ec33_ok : EntsOk Try.prog (ofL Ec33) := cons_ok (fn := Try.f33) (c := (bd Try.f33)) (by kernel_rfl) callsc33 Ec92r_ok
abbrev Sc56 : FL := ⟨⟨[], [.env 0 (.dat .item)], []⟩, 1, [(.ret, ⟨[(0, .full 3)], [.reg 3 (.row 23 .u64), .env 1 (.c (.int .i64))], [(3, .env 0 0)]⟩)], [.tmp 2, .tmp 3], false⟩
abbrev lc56_0 : Lay := ⟨[(1, .ptr 1 0 3), (4, .full 4)], [.env 5 (.c (.int .u64)), .env 6 (.c (.int .i64)), .reg 1 (.cells [.int .u8, .fz (.int .u8), .fz .item]), .reg 4 (.row 23 .u64)], [(1, .env 1 0), (4, .env 4 0)]⟩
abbrev oc56_0 : List (AExit × Lay) := [(.ret, ⟨[(2, .full 2)], [.env 3 (.c (.int .i64)), .reg 2 (.row 23 .u64)], [(2, .env 2 0)]⟩), (.exit 0, ⟨[(1, .ptr 1 0 3), (4, .full 4)], [.reg 1 (.cells [.int .u8, .fz (.int .u8), .fz .item]), .reg 4 (.row 23 .u64)], [(1, .env 1 0), (4, .env 4 0)]⟩)]
noncomputable def stepc56_0 : Int × Int × (Int × (List Int) × (List Tree)) × List Int -> Option ((Int × Int × (Int × (List Int) × (List Tree)) × List Int) ⊕ ((Int × List Int) ⊕ ((Int × (List Int) × (List Tree)) × List Int)))
 | (t5, t6, r1, r4) =>
 if (decide (t6 < (r1.2.1.length : Int))) = true then
 if (decide (t5 > 4294967295)) = true then
 some (.inr (.inl (127, ([] : List Int))))
 else
 if (0 : Int) ≤ t6 ∧ t6 < (r1.2.1.length : Int) then
 let x1 : Int := (IntKind.u64.wrap ((IntKind.u64.wrap (128 * t5)) + (IntKind.u64.wrap ((r1.2.1.getD t6.toNat 0).tmod 128))))
 if (0 : Int) ≤ t6 ∧ t6 < (r1.2.1.length : Int) then
 if (decide ((r1.2.1.getD t6.toNat 0) ≥ 128)) = true then
 some (.inl (x1, (IntKind.i64.wrap (t6 + 1)), (r1.1, r1.2.1, r1.2.2), r4))
 else
 if ((r4.length : Int) == 0) = true then
 let x2 : Int := (if 2 < (IntKind.u64.wrap (x1.tdiv 40)) then 2 else (IntKind.u64.wrap (x1.tdiv 40)))
 if okBytes (r4.length + ((List.replicate 1 (0 : Int)).set 0 x2).length) 8 then
 let f3 : List Int := ((List.replicate 1 (0 : Int)).set 0 (IntKind.u64.wrap (x1 - (IntKind.u64.wrap (40 * x2)))))
 if okBytes ((r4 ++ ((List.replicate 1 (0 : Int)).set 0 x2)).length + f3.length) 8 then
 some (.inl (0, (IntKind.i64.wrap (t6 + 1)), (r1.1, r1.2.1, r1.2.2), ((r4 ++ ((List.replicate 1 (0 : Int)).set 0 x2)) ++ f3)))
 else none
 else none
 else
 if okBytes (r4.length + ((List.replicate 1 (0 : Int)).set 0 x1).length) 8 then
 some (.inl (0, (IntKind.i64.wrap (t6 + 1)), (r1.1, r1.2.1, r1.2.2), (r4 ++ ((List.replicate 1 (0 : Int)).set 0 x1))))
 else none
 else none
 else none
 else
 some (.inr (.inr ((r1.1, r1.2.1, r1.2.2), r4)))
noncomputable def Fc56 : Tree -> Option ((List Int × Int))
 | a0 =>
 if (a0.tag != 6) = true then
 some (([] : List Int), 123)
 else
 (loopO stepc56_0 (0, 0, (a0.tag, a0.body, a0.kids), ([] : List Int))).bind fun
 | (.inl (z4, z5)) =>
 some (z5, z4)
 | (.inr (z6, z7)) =>
 (Fc92r z7).bind fun (y8, y9, y10) =>
 (Fc33 ((Tree.node y8.tag y8.body y8.kids), (Tree.node z6.1 z6.2.1 z6.2.2))).bind fun y11 =>
 if (y9 != 0) = false then
 if (!y11) = true then
 some (([] : List Int), 127)
 else
 some (y10, 0)
 else
 some (([] : List Int), 127)
noncomputable def annc56 : Ann := (.seq .none (.seq .none (.seq .none (.seq .none (.seq (.seq .none (.seq (.cut (cutEnt lc56_0 oc56_0 (loopO (stepc56_0)))) .none)) .none)))))
theorem okc56_0 : LOk Try.prog 72 (cutEnt lc56_0 oc56_0 (loopO stepc56_0)) (Code.at' [1, 1, 1, 1, 0, 1, 0] (bd Try.f56)) := by
 have e : Code.at' [1, 1, 1, 1, 0, 1, 0] (bd Try.f56) = .loop (Code.at' [1, 1, 1, 1, 0, 1, 0, 0] (bd Try.f56)) := by kernel_rfl
 rw [e]
 refine loop_ok (ann := .none) (cx Ec33_ok) 72 rfl rfl (annOk_of_cuts nc) (by rintro ⟨t5, t6, r1, r4⟩; kernel_rfl)
theorem callsc56 : CallsL Try.prog 56 Sc56 Fc56 := by
 refine fcalls (fn := Try.f56) (c := (bd Try.f56)) (ann := annc56) (cx Ec33_ok) (by kernel_rfl) (annOk_of_cuts ?_) (by intro x; kernel_rfl)
 exact cut1 (by kernel_rfl) okc56_0
noncomputable def Ec56 : List (Nat × Ent) := (56, (funEntL Sc56 true Fc56)) :: Ec33
theorem Ec56_ok : EntsOk Try.prog (ofL Ec56) := cons_ok (fn := Try.f56) (c := (bd Try.f56)) (by kernel_rfl) callsc56 Ec33_ok
abbrev Sc32 : FL := ⟨⟨[], [.env 0 (.dat .item)], []⟩, 1, [(.ret, ⟨[], [.env 0 (.c (.fz (.pair (.int .i64) (.pair .bool (.sl (.int .u8)))))), .env 1 (.c (.bool))], []⟩)], [.tmp 2, .tmp 3], true⟩
abbrev lc32_0 : Lay := ⟨[(4, .full 500256)], [.env 5 (.c (.fz .item)), .env 6 (.c (.int .i64)), .reg 500256 (.rowd 45 (.pair (.int .i64) (.pair .bool (.sl (.int .u8)))))], [(500256, .env 4 0)]⟩
abbrev oc32_0 : List (AExit × Lay) := [(.ret, ⟨[(2, .nils)], [.env 3 (.c (.bool))], []⟩), (.exit 0, ⟨[(4, .full 500256)], [.reg 500256 (.rowd 45 (.pair (.int .i64) (.pair .bool (.sl (.int .u8)))))], [(500256, .env 4 0)]⟩)]
noncomputable def stepc32_0 : (List Tree) × Int × (List (Int × (Bool × (List Int)))) -> Option (((List Tree) × Int × (List (Int × (Bool × (List Int))))) ⊕ ((Bool) ⊕ (List (Int × (Bool × (List Int))))))
 | (t5, t6, r500256) =>
 if (decide (t6 < (t5.length : Int))) = true then
 if (0 : Int) ≤ t6 ∧ t6 < (t5.length : Int) then
 (Fc28 ((Tree.node (t5.getD t6.toNat (DT.dflt .item)).tag (t5.getD t6.toNat (DT.dflt .item)).body (t5.getD t6.toNat (DT.dflt .item)).kids), 0)).bind fun y2 =>
 (Fc56 (Tree.node y2.tag y2.body y2.kids)).bind fun (y3, y4) =>
 if (y4 != 0) = false then
 if ((y3.length : Int) != 9) = false then
 if (0 : Int) ≤ (8 : Int) ∧ (8 : Int) < (y3.length : Int) then
 if (decide ((y3.getD 8 0) < 1)) = true then
 some (.inr (.inl false))
 else
 if (0 : Int) ≤ (8 : Int) ∧ (8 : Int) < (y3.length : Int) then
 if (0 : Int) ≤ t6 ∧ t6 < (t5.length : Int) then
 let x5 : Bool := (((t5.getD t6.toNat (DT.dflt .item)).kids.length : Int) == 3)
 if (0 : Int) ≤ t6 ∧ t6 < (t5.length : Int) then
 if (0 : Int) ≤ t6 ∧ t6 < (t5.length : Int) then
 let x6 : Int := (IntKind.i64.wrap (((t5.getD t6.toNat (DT.dflt .item)).kids.length : Int) - 1))
 (Fc28 ((Tree.node (t5.getD t6.toNat (DT.dflt .item)).tag (t5.getD t6.toNat (DT.dflt .item)).body (t5.getD t6.toNat (DT.dflt .item)).kids), x6)).bind fun y7 =>
 let f8 : List (Int × (Bool × (List Int))) := ([((IntKind.i64.wrap (y3.getD 8 0)), (x5, y7.body))] : List (Int × (Bool × (List Int))))
 if okBytes (r500256.length + f8.length) 40 then
 some (.inl (t5, (IntKind.i64.wrap (t6 + 1)), (r500256 ++ f8)))
 else none
 else none
 else none
 else none
 else none
 else none
 else
 some (.inr (.inl false))
 else
 some (.inr (.inl false))
 else none
 else
 some (.inr (.inr r500256))
noncomputable def Fc32 : Tree -> Option (((List (Int × (Bool × (List Int)))) × Bool))
 | a0 =>
 (Fc28 ((Tree.node a0.tag a0.body a0.kids), 0)).bind fun y1 =>
 if ((y1.kids.length : Int) == 0) = true then
 some (([] : List (Int × (Bool × (List Int)))), false)
 else
 (loopO stepc32_0 (y1.kids, 0, ([] : List (Int × (Bool × (List Int)))))).bind fun
 | (.inl z9) =>
 some (([] : List (Int × (Bool × (List Int)))), z9)
 | (.inr z10) =>
 some (z10, true)
noncomputable def annc32 : Ann := (.seq .none (.seq .none (.seq .none (.seq .none (.seq (.seq .none (.seq (.cut (cutEnt lc32_0 oc32_0 (loopO (stepc32_0)))) .none)) .none)))))
theorem okc32_0 : LOk Try.prog 76 (cutEnt lc32_0 oc32_0 (loopO stepc32_0)) (Code.at' [1, 1, 1, 1, 0, 1, 0] (bd Try.f32)) := by
 have e : Code.at' [1, 1, 1, 1, 0, 1, 0] (bd Try.f32) = .loop (Code.at' [1, 1, 1, 1, 0, 1, 0, 0] (bd Try.f32)) := by kernel_rfl
 rw [e]
 refine loop_ok (ann := .none) (cx Ec56_ok) 76 rfl rfl (annOk_of_cuts nc) (by rintro ⟨t5, t6, r500256⟩; kernel_rfl)
theorem callsc32 : CallsL Try.prog 32 Sc32 Fc32 := by
 refine fcalls (fn := Try.f32) (c := (bd Try.f32)) (ann := annc32) (cx Ec56_ok) (by kernel_rfl) (annOk_of_cuts ?_) (by intro x; kernel_rfl)
 exact cut1 (by kernel_rfl) okc32_0
noncomputable def Ec32 : List (Nat × Ent) := (32, (funEntL Sc32 true Fc32)) :: Ec56
theorem Ec32_ok : EntsOk Try.prog (ofL Ec32) := cons_ok (fn := Try.f32) (c := (bd Try.f32)) (by kernel_rfl) callsc32 Ec56_ok
abbrev Sc57 : FL := ⟨⟨[], [.env 0 (.c (.int .u64))], []⟩, 1, [(.ret, ⟨[], [.env 0 (.dat .item)], []⟩)], [.cell 2 58], true⟩
abbrev lc57_0 : Lay := ⟨[(2, .ptr 2 0 3), (3, .full 3)], [.env 0 (.c (.int .u64)), .reg 2 (.cells [.int .u8, .nils, .nils]), .reg 3 (.row 5 .u8)], [(2, .env 2 0), (3, .env 3 0)]⟩
abbrev oc57_0 : List (AExit × Lay) := [(.exit 0, ⟨[(2, .ptr 2 0 3), (3, .full 3)], [.reg 2 (.cells [.int .u8, .nils, .nils]), .reg 3 (.row 5 .u8)], [(2, .env 2 0), (3, .env 3 0)]⟩)]
noncomputable def stepc57_0 : Int × (Int × Unit × Unit) × List Int -> Option ((Int × (Int × Unit × Unit) × List Int) ⊕ (((Int × Unit × Unit) × List Int)))
 | (t0, r2, r3) =>
 if (decide (t0 > 0)) = false then
 if ((r3.length : Int) == 0) = true then
 let f1 : List Int := ((List.replicate 1 (0 : Int)).set 0 (IntKind.u8.wrap (t0.tmod 256)))
 if okBytes (f1.length + r3.length) 1 then
 some (.inl ((IntKind.u64.wrap (t0.tdiv 256)), (r2.1, (), ()), (f1 ++ r3)))
 else none
 else
 some (.inr ((r2.1, (), ()), r3))
 else
 let f2 : List Int := ((List.replicate 1 (0 : Int)).set 0 (IntKind.u8.wrap (t0.tmod 256)))
 if okBytes (f2.length + r3.length) 1 then
 some (.inl ((IntKind.u64.wrap (t0.tdiv 256)), (r2.1, (), ()), (f2 ++ r3)))
 else none
noncomputable def Fc57 : Int -> Option ((Tree))
 | a0 =>
 (loopO stepc57_0 (a0, (0, (), ()), ([] : List Int))).bind fun (z3, z4) =>
 if (0 : Int) ≤ (0 : Int) ∧ (0 : Int) < (z4.length : Int) then
 if (decide ((z4.getD 0 0) ≥ 128)) = true then
 if okBytes (((List.replicate 1 (0 : Int)).set 0 0).length + z4.length) 1 then
 some (Tree.node 2 (((List.replicate 1 (0 : Int)).set 0 0) ++ z4) ([] : List Tree))
 else none
 else
 some (Tree.node 2 z4 ([] : List Tree))
 else none
noncomputable def annc57 : Ann := (.seq .none (.seq .none (.seq (.seq (.cut (cutEnt lc57_0 oc57_0 (loopO (stepc57_0)))) .none) .none)))
theorem okc57_0 : LOk Try.prog 28 (cutEnt lc57_0 oc57_0 (loopO stepc57_0)) (Code.at' [1, 1, 0, 0] (bd Try.f57)) := by
 have e : Code.at' [1, 1, 0, 0] (bd Try.f57) = .loop (Code.at' [1, 1, 0, 0, 0] (bd Try.f57)) := by kernel_rfl
 rw [e]
 refine loop_ok (ann := .none) (cx Ec32_ok) 28 rfl rfl (annOk_of_cuts nc) (by rintro ⟨t0, r2, r3⟩; kernel_rfl)
theorem callsc57 : CallsL Try.prog 57 Sc57 Fc57 := by
 refine fcalls (fn := Try.f57) (c := (bd Try.f57)) (ann := annc57) (cx Ec32_ok) (by kernel_rfl) (annOk_of_cuts ?_) (by intro x; kernel_rfl)
 exact cut1 (by kernel_rfl) okc57_0
noncomputable def Ec57 : List (Nat × Ent) := (57, (funEntL Sc57 true Fc57)) :: Ec32
theorem Ec57_ok : EntsOk Try.prog (ofL Ec57) := cons_ok (fn := Try.f57) (c := (bd Try.f57)) (by kernel_rfl) callsc57 Ec32_ok
abbrev Sc34 : FL := ⟨⟨[(1, .full 1000001)], [.env 0 (.c (.int .u8)), .reg 1000001 (.rowd 58 .item)], [(1000001, .env 1 0)]⟩, 2, [(.ret, ⟨[], [.env 0 (.agg [.int .u8, .nils, .full 1000001]), .reg 1000001 (.rowd 58 .item)], []⟩)], [.cell 4 58], true⟩
noncomputable def Fc34 : Int × List Tree -> Option (((Int × Unit × Unit) × List Tree))
 | (a0, a1) =>
 some ((a0, (), ()), a1)
theorem callsc34 : CallsL Try.prog 34 Sc34 Fc34 := by
 refine fcalls (fn := Try.f34) (c := (bd Try.f34)) (ann := .none) (cx Ec57_ok) (by kernel_rfl) (annOk_of_cuts nc) (by rintro ⟨a0, a1⟩; kernel_rfl)
noncomputable def Ec34 : List (Nat × Ent) := (34, (funEntL Sc34 true Fc34)) :: Ec57
theorem Ec34_ok : EntsOk Try.prog (ofL Ec34) := cons_ok (fn := Try.f34) (c := (bd Try.f34)) (by kernel_rfl) callsc34 Ec57_ok
abbrev Sc61 : FL := ⟨⟨[], [.env 0 (.c (.int .u64)), .env 1 (.c (.int .u64))], []⟩, 2, [(.ret, ⟨[], [.env 0 (.dat .item)], []⟩)], [.cell 4 58], true⟩
noncomputable def Fc61 : Int × Int -> Option ((Tree))
 | (a0, a1) =>
 let f1 : List Int := (((((((((List.replicate 8 (0 : Int)).set 0 1).set 1 3).set 2 6).set 3 1).set 4 4).set 5 1).set 6 4128).set 7 a0)
 if (decide (a1 > 0)) = true then
 if okBytes (f1.length + ((List.replicate 1 (0 : Int)).set 0 a1).length) 8 then
 (Fc92r (f1 ++ ((List.replicate 1 (0 : Int)).set 0 a1))).bind fun (y2, y3, y4) =>
 some (Tree.node y2.tag y2.body y2.kids)
 else none
 else
 (Fc92r f1).bind fun (y5, y6, y7) =>
 some (Tree.node y5.tag y5.body y5.kids)
theorem callsc61 : CallsL Try.prog 61 Sc61 Fc61 := by
 refine fcalls (fn := Try.f61) (c := (bd Try.f61)) (ann := .none) (cx Ec34_ok) (by kernel_rfl) (annOk_of_cuts nc) (by rintro ⟨a0, a1⟩; kernel_rfl)
noncomputable def Ec61 : List (Nat × Ent) := (61, (funEntL Sc61 true Fc61)) :: Ec34
theorem Ec61_ok : EntsOk Try.prog (ofL Ec61) := cons_ok (fn := Try.f61) (c := (bd Try.f61)) (by kernel_rfl) callsc61 Ec34_ok
abbrev Sc36 : FL := ⟨⟨[], [], []⟩, 0, [(.ret, ⟨[], [.env 0 (.dat .item)], []⟩)], [.cell 0 58], true⟩
noncomputable def Fc36 : Unit -> Option ((Tree))
 | _ =>
 (Fc61 (2200, 1)).bind fun y1 =>
 (Fc34 (48, ([(Tree.node y1.tag y1.body y1.kids)] : List Tree))).bind fun (y2, y3) =>
 some (Tree.node y2.1 ([] : List Int) y3)
theorem callsc36 : CallsL Try.prog 36 Sc36 Fc36 := by
 refine fcalls (fn := Try.f36) (c := (bd Try.f36)) (ann := .none) (cx Ec61_ok) (by kernel_rfl) (annOk_of_cuts nc) (by intro x; kernel_rfl)
noncomputable def Ec36 : List (Nat × Ent) := (36, (funEntL Sc36 true Fc36)) :: Ec61
theorem Ec36_ok : EntsOk Try.prog (ofL Ec36) := cons_ok (fn := Try.f36) (c := (bd Try.f36)) (by kernel_rfl) callsc36 Ec61_ok
abbrev Sc93 : FL := ⟨⟨[], [.env 0 (.c (.int .u8)), .env 1 (.c (.fz (.int .u8)))], []⟩, 2, [(.ret, ⟨[], [.env 0 (.dat .item)], []⟩)], [.cell 4 58], true⟩
noncomputable def Fc93 : Int × (List Int) -> Option ((Tree))
 | (a0, a1) =>
 some (Tree.node a0 a1 ([] : List Tree))
theorem callsc93 : CallsL Try.prog 93 Sc93 Fc93 := by
 refine fcalls (fn := Try.f93) (c := (bd Try.f93)) (ann := .none) (cx Ec36_ok) (by kernel_rfl) (annOk_of_cuts nc) (by rintro ⟨a0, a1⟩; kernel_rfl)
noncomputable def Ec93 : List (Nat × Ent) := (93, (funEntL Sc93 true Fc93)) :: Ec36
theorem Ec93_ok : EntsOk Try.prog (ofL Ec93) := cons_ok (fn := Try.f93) (c := (bd Try.f93)) (by kernel_rfl) callsc93 Ec36_ok
abbrev Sc58 : FL := ⟨⟨[], [.env 0 (.c (.str))], []⟩, 1, [(.ret, ⟨[], [.env 0 (.dat .item)], []⟩)], [.cell 2 58], true⟩
noncomputable def Fc58 : ByteArray -> Option ((Tree))
 | a0 =>
 let f1 : List Int := (((((List.replicate 4 (0 : Int)).set 0 2).set 1 5).set 2 4).set 3 3)
 (Fc92r f1).bind fun (y2, y3, y4) =>
 (Fc93 (12, (toBytes a0))).bind fun y5 =>
 let f6 : List Tree := ([(Tree.node y2.tag y2.body y2.kids), (Tree.node y5.tag y5.body y5.kids)] : List Tree)
 (Fc34 (48, f6)).bind fun (y7, y8) =>
 (Fc34 (49, ([(Tree.node y7.1 ([] : List Int) y8)] : List Tree))).bind fun (y9, y10) =>
 (Fc34 (48, ([(Tree.node y9.1 ([] : List Int) y10)] : List Tree))).bind fun (y11, y12) =>
 some (Tree.node y11.1 ([] : List Int) y12)
theorem callsc58 : CallsL Try.prog 58 Sc58 Fc58 := by
 refine fcalls (fn := Try.f58) (c := (bd Try.f58)) (ann := .none) (cx Ec93_ok) (by kernel_rfl) (annOk_of_cuts nc) (by intro x; kernel_rfl)
noncomputable def Ec58 : List (Nat × Ent) := (58, (funEntL Sc58 true Fc58)) :: Ec93
theorem Ec58_ok : EntsOk Try.prog (ofL Ec58) := cons_ok (fn := Try.f58) (c := (bd Try.f58)) (by kernel_rfl) callsc58 Ec93_ok
abbrev Sc59 : FL := ⟨⟨[], [], []⟩, 0, [(.ret, ⟨[], [.env 0 (.dat .item)], []⟩)], [.cell 0 58], true⟩
noncomputable def Fc59 : Unit -> Option ((Tree))
 | _ =>
 let f1 : List Int := ((((((((((((((((List.replicate 15 (0 : Int)).set 0 50).set 1 48).set 2 48).set 3 48).set 4 48).set 5 49).set 6 48).set 7 49).set 8 48).set 9 48).set 10 48).set 11 48).set 12 48).set 13 48).set 14 90)
 (Fc93 (24, f1)).bind fun y2 =>
 let f3 : List Int := ((((((((((((((((List.replicate 15 (0 : Int)).set 0 57).set 1 57).set 2 57).set 3 57).set 4 49).set 5 50).set 6 51).set 7 49).set 8 50).set 9 51).set 10 53).set 11 57).set 12 53).set 13 57).set 14 90)
 (Fc93 (24, f3)).bind fun y4 =>
 let f5 : List Tree := ([(Tree.node y2.tag y2.body y2.kids), (Tree.node y4.tag y4.body y4.kids)] : List Tree)
 (Fc34 (48, f5)).bind fun (y6, y7) =>
 some (Tree.node y6.1 ([] : List Int) y7)
theorem callsc59 : CallsL Try.prog 59 Sc59 Fc59 := by
 refine fcalls (fn := Try.f59) (c := (bd Try.f59)) (ann := .none) (cx Ec58_ok) (by kernel_rfl) (annOk_of_cuts nc) (by intro x; kernel_rfl)
noncomputable def Ec59 : List (Nat × Ent) := (59, (funEntL Sc59 true Fc59)) :: Ec58
theorem Ec59_ok : EntsOk Try.prog (ofL Ec59) := cons_ok (fn := Try.f59) (c := (bd Try.f59)) (by kernel_rfl) callsc59 Ec58_ok
abbrev Sc37 : FL := ⟨⟨[], [.env 0 (.c (.fz (.int .u8)))], []⟩, 1, [(.ret, ⟨[], [.env 0 (.dat .item)], []⟩)], [.cell 2 58], true⟩
noncomputable def Fc37 : (List Int) -> Option ((Tree))
 | a0 =>
 if okBytes (((List.replicate 1 (0 : Int)).set 0 0).length + a0.length) 1 then
 some (Tree.node 3 (((List.replicate 1 (0 : Int)).set 0 0) ++ a0) ([] : List Tree))
 else none
theorem callsc37 : CallsL Try.prog 37 Sc37 Fc37 := by
 refine fcalls (fn := Try.f37) (c := (bd Try.f37)) (ann := .none) (cx Ec59_ok) (by kernel_rfl) (annOk_of_cuts nc) (by intro x; kernel_rfl)
noncomputable def Ec37 : List (Nat × Ent) := (37, (funEntL Sc37 true Fc37)) :: Ec59
theorem Ec37_ok : EntsOk Try.prog (ofL Ec37) := cons_ok (fn := Try.f37) (c := (bd Try.f37)) (by kernel_rfl) callsc37 Ec59_ok
abbrev Sc94 : FL := ⟨⟨[], [.env 0 (.c (.bool))], []⟩, 1, [(.ret, ⟨[], [.env 0 (.dat .item)], []⟩)], [.cell 2 58], true⟩
noncomputable def Fc94 : Bool -> Option ((Tree))
 | a0 =>
 if a0 = true then
 some (Tree.node 1 ((List.replicate 1 (0 : Int)).set 0 255) ([] : List Tree))
 else
 some (Tree.node 1 ((List.replicate 1 (0 : Int)).set 0 0) ([] : List Tree))
theorem callsc94 : CallsL Try.prog 94 Sc94 Fc94 := by
 refine fcalls (fn := Try.f94) (c := (bd Try.f94)) (ann := .none) (cx Ec37_ok) (by kernel_rfl) (annOk_of_cuts nc) (by intro x; kernel_rfl)
noncomputable def Ec94 : List (Nat × Ent) := (94, (funEntL Sc94 true Fc94)) :: Ec37
theorem Ec94_ok : EntsOk Try.prog (ofL Ec94) := cons_ok (fn := Try.f94) (c := (bd Try.f94)) (by kernel_rfl) callsc94 Ec37_ok
abbrev Sc60 : FL := ⟨⟨[], [.env 0 (.agg [.int .i64, .bool, .fz (.int .u8)])], []⟩, 1, [(.ret, ⟨[], [.env 0 (.dat .item)], []⟩)], [.cell 2 58], true⟩
noncomputable def Fc60 : Int × Bool × (List Int) -> Option ((Tree))
 | a0 =>
 (Fc61 (2100, (IntKind.u64.wrap a0.1))).bind fun y1 =>
 (Fc34 (48, ([(Tree.node y1.tag y1.body y1.kids)] : List Tree))).bind fun (y2, y3) =>
 if a0.2.1 = true then
 (Fc94 true).bind fun y4 =>
 if okBytes (y3.length + ([(Tree.node y4.tag y4.body y4.kids)] : List Tree).length) 56 then
 (Fc93 (4, a0.2.2)).bind fun y5 =>
 if okBytes ((y3 ++ ([(Tree.node y4.tag y4.body y4.kids)] : List Tree)).length + ([(Tree.node y5.tag y5.body y5.kids)] : List Tree).length) 56 then
 let f6 : List Tree := ((y3 ++ ([(Tree.node y4.tag y4.body y4.kids)] : List Tree)) ++ ([(Tree.node y5.tag y5.body y5.kids)] : List Tree))
 some (Tree.node y2.1 ([] : List Int) f6)
 else none
 else none
 else
 (Fc93 (4, a0.2.2)).bind fun y7 =>
 if okBytes (y3.length + ([(Tree.node y7.tag y7.body y7.kids)] : List Tree).length) 56 then
 some (Tree.node y2.1 ([] : List Int) (y3 ++ ([(Tree.node y7.tag y7.body y7.kids)] : List Tree)))
 else none
theorem callsc60 : CallsL Try.prog 60 Sc60 Fc60 := by
 refine fcalls (fn := Try.f60) (c := (bd Try.f60)) (ann := .none) (cx Ec94_ok) (by kernel_rfl) (annOk_of_cuts nc) (by intro x; kernel_rfl)
noncomputable def Ec60 : List (Nat × Ent) := (60, (funEntL Sc60 true Fc60)) :: Ec94
theorem Ec60_ok : EntsOk Try.prog (ofL Ec60) := cons_ok (fn := Try.f60) (c := (bd Try.f60)) (by kernel_rfl) callsc60 Ec94_ok
abbrev Sc35 : FL := ⟨⟨[], [.env 0 (.agg [.int .u64, .str, .str, .fz (.int .u8), .fz (.pair (.int .i64) (.pair .bool (.sl (.int .u8)))), .fz (.int .u8)])], []⟩, 1, [(.ret, ⟨[], [.env 0 (.dat .item)], []⟩)], [.cell 2 58], true⟩
abbrev lc35_0 : Lay := ⟨[(1, .ptr 1 0 6), (2, .ptr 2 0 3), (3, .ptr 3 0 3), (4, .ptr 4 0 3)], [.env 5 (.c (.int .i64)), .reg 1 (.cells [.int .u64, .str, .str, .fz (.int .u8), .fz (.pair (.int .i64) (.pair .bool (.sl (.int .u8)))), .fz (.int .u8)]), .reg 2 (.cells [.int .u8, .nils, .nils]), .reg 3 (.cells [.int .u8, .nils, .full 26]), .reg 4 (.cells [.int .u8, .nils, .full 501032]), .reg 26 (.rowd 58 .item), .reg 501032 (.rowd 58 .item)], [(1, .env 1 0), (2, .env 2 0), (3, .env 3 0), (4, .env 4 0), (26, .reg 3 2), (501032, .reg 4 2)]⟩
abbrev oc35_0 : List (AExit × Lay) := [(.exit 0, ⟨[(2, .ptr 2 0 3), (3, .ptr 3 0 3), (4, .ptr 4 0 3)], [.reg 2 (.cells [.int .u8, .nils, .nils]), .reg 3 (.cells [.int .u8, .nils, .full 26]), .reg 4 (.cells [.int .u8, .nils, .full 501032]), .reg 26 (.rowd 58 .item), .reg 501032 (.rowd 58 .item)], [(2, .env 2 0), (3, .env 3 0), (4, .env 4 0), (26, .reg 3 2), (501032, .reg 4 2)]⟩)]
noncomputable def stepc35_0 : Int × (Int × ByteArray × ByteArray × (List Int) × (List (Int × (Bool × (List Int)))) × (List Int)) × (Int × Unit × Unit) × (Int × Unit × Unit) × (Int × Unit × Unit) × List Tree × List Tree -> Option ((Int × (Int × ByteArray × ByteArray × (List Int) × (List (Int × (Bool × (List Int)))) × (List Int)) × (Int × Unit × Unit) × (Int × Unit × Unit) × (Int × Unit × Unit) × List Tree × List Tree) ⊕ (((Int × Unit × Unit) × (Int × Unit × Unit) × (Int × Unit × Unit) × List Tree × List Tree)))
 | (t5, r1, r2, r3, r4, r26, r501032) =>
 if (decide (t5 < (r1.2.2.2.2.1.length : Int))) = true then
 if (0 : Int) ≤ t5 ∧ t5 < (r1.2.2.2.2.1.length : Int) then
 let x19 : Int := (r1.2.2.2.2.1.getD t5.toNat (DT.dflt (.pair (.int .i64) (.pair .bool (.sl (.int .u8)))))).1
 let x20 : Bool := (r1.2.2.2.2.1.getD t5.toNat (DT.dflt (.pair (.int .i64) (.pair .bool (.sl (.int .u8)))))).2.1
 let f21 : List Int := (r1.2.2.2.2.1.getD t5.toNat (DT.dflt (.pair (.int .i64) (.pair .bool (.sl (.int .u8)))))).2.2
 (Fc60 (x19, x20, f21)).bind fun y22 =>
 if okBytes (r501032.length + ([(Tree.node y22.tag y22.body y22.kids)] : List Tree).length) 56 then
 let f23 : List Tree := (r501032 ++ ([(Tree.node y22.tag y22.body y22.kids)] : List Tree))
 some (.inl ((IntKind.i64.wrap (t5 + 1)), (r1.1, r1.2.1, r1.2.2.1, r1.2.2.2.1, r1.2.2.2.2.1, r1.2.2.2.2.2), (r2.1, (), ()), (r3.1, (), ()), (r4.1, (), ()), r26, f23))
 else none
 else none
 else
 some (.inr ((r2.1, (), ()), (r3.1, (), ()), (r4.1, (), ()), r26, r501032))
noncomputable def Fc35 : Int × ByteArray × ByteArray × (List Int) × (List (Int × (Bool × (List Int)))) × (List Int) -> Option ((Tree))
 | a0 =>
 (Fc57 2).bind fun y1 =>
 (Fc34 (160, ([(Tree.node y1.tag y1.body y1.kids)] : List Tree))).bind fun (y2, y3) =>
 (Fc57 a0.1).bind fun y4 =>
 (Fc36 ()).bind fun y5 =>
 (Fc58 a0.2.1).bind fun y6 =>
 (Fc59 ()).bind fun y7 =>
 (Fc58 a0.2.2.1).bind fun y8 =>
 (Fc36 ()).bind fun y9 =>
 (Fc37 a0.2.2.2.1).bind fun y10 =>
 let f11 : List Tree := ([(Tree.node y9.tag y9.body y9.kids), (Tree.node y10.tag y10.body y10.kids)] : List Tree)
 (Fc34 (48, f11)).bind fun (y12, y13) =>
 let f14 : List Tree := ([(Tree.node y2.1 ([] : List Int) y3), (Tree.node y4.tag y4.body y4.kids), (Tree.node y5.tag y5.body y5.kids), (Tree.node y6.tag y6.body y6.kids), (Tree.node y7.tag y7.body y7.kids), (Tree.node y8.tag y8.body y8.kids), (Tree.node y12.1 ([] : List Int) y13)] : List Tree)
 (Fc34 (48, f14)).bind fun (y15, y16) =>
 if (decide ((a0.2.2.2.2.1.length : Int) > 0)) = true then
 (Fc34 (48, ([] : List Tree))).bind fun (y17, y18) =>
 (loopO stepc35_0 (0, (a0.1, a0.2.1, a0.2.2.1, a0.2.2.2.1, a0.2.2.2.2.1, a0.2.2.2.2.2), (0, (), ()), (y15.1, (), ()), (y17.1, (), ()), y16, y18)).bind fun (z24, z25, z26, z27, z28) =>
 (Fc34 (163, ([(Tree.node z26.1 ([] : List Int) z28)] : List Tree))).bind fun (y29, y30) =>
 if okBytes (z27.length + ([(Tree.node y29.1 ([] : List Int) y30)] : List Tree).length) 56 then
 let f31 : List Tree := (z27 ++ ([(Tree.node y29.1 ([] : List Int) y30)] : List Tree))
 some (Tree.node z25.1 ([] : List Int) f31)
 else none
 else
 some (Tree.node y15.1 ([] : List Int) y16)
noncomputable def annc35 : Ann := (.seq .none (.seq .none (.seq (.seq .none (.seq (.seq .none (.seq (.seq .none (.seq (.cut (cutEnt lc35_0 oc35_0 (loopO (stepc35_0)))) .none)) .none)) .none)) .none)))
theorem okc35_0 : LOk Try.prog 60 (cutEnt lc35_0 oc35_0 (loopO stepc35_0)) (Code.at' [1, 1, 0, 1, 0, 1, 0, 1, 0] (bd Try.f35)) := by
 have e : Code.at' [1, 1, 0, 1, 0, 1, 0, 1, 0] (bd Try.f35) = .loop (Code.at' [1, 1, 0, 1, 0, 1, 0, 1, 0, 0] (bd Try.f35)) := by kernel_rfl
 rw [e]
 refine loop_ok (ann := .none) (cx Ec60_ok) 60 rfl rfl (annOk_of_cuts nc) (by rintro ⟨t5, r1, r2, r3, r4, r26, r501032⟩; kernel_rfl)
theorem callsc35 : CallsL Try.prog 35 Sc35 Fc35 := by
 refine fcalls (fn := Try.f35) (c := (bd Try.f35)) (ann := annc35) (cx Ec60_ok) (by kernel_rfl) (annOk_of_cuts ?_) (by intro x; kernel_rfl)
 exact cut1 (by kernel_rfl) okc35_0
noncomputable def Ec35 : List (Nat × Ent) := (35, (funEntL Sc35 true Fc35)) :: Ec60
theorem Ec35_ok : EntsOk Try.prog (ofL Ec35) := cons_ok (fn := Try.f35) (c := (bd Try.f35)) (by kernel_rfl) callsc35 Ec60_ok
abbrev Sc62 : FL := ⟨⟨[], [.env 0 (.c (.str))], []⟩, 1, [(.ret, ⟨[], [.env 0 (.c (.bool))], []⟩)], [.tmp 2], false⟩
abbrev lc62_0 : Lay := ⟨[], [.env 0 (.c (.str)), .env 3 (.c (.int .i64))], []⟩
abbrev oc62_0 : List (AExit × Lay) := [(.ret, ⟨[], [.env 2 (.c (.bool))], []⟩), (.exit 0, ⟨[], [], []⟩)]
noncomputable def stepc62_0 : ByteArray × Int -> Option ((ByteArray × Int) ⊕ ((Bool) ⊕ (Unit)))
 | (t0, t3) =>
 if (decide (t3 < (t0.size : Int))) = true then
 if 0 ≤ t3 ∧ t3 < (t0.size : Int) then
 if (decide ((strAt t0 t3) < 32)) = false then
 if 0 ≤ t3 ∧ t3 < (t0.size : Int) then
 if (decide ((strAt t0 t3) > 126)) = true then
 some (.inr (.inl false))
 else
 some (.inl (t0, (IntKind.i64.wrap (t3 + 1))))
 else none
 else
 some (.inr (.inl false))
 else none
 else
 some (.inr (.inr ()))
noncomputable def Fc62 : ByteArray -> Option ((Bool))
 | a0 =>
 if (decide ((a0.size : Int) < 1)) = false then
 if (decide ((a0.size : Int) > 64)) = true then
 some false
 else
 (loopO stepc62_0 (a0, 0)).bind fun
 | (.inl z1) =>
 some z1
 | (.inr _) =>
 some true
 else
 some false
noncomputable def annc62 : Ann := (.seq .none (.seq .none (.seq (.seq .none (.seq (.cut (cutEnt lc62_0 oc62_0 (loopO (stepc62_0)))) .none)) .none)))
theorem okc62_0 : LOk Try.prog 28 (cutEnt lc62_0 oc62_0 (loopO stepc62_0)) (Code.at' [1, 1, 0, 1, 0] (bd Try.f62)) := by
 have e : Code.at' [1, 1, 0, 1, 0] (bd Try.f62) = .loop (Code.at' [1, 1, 0, 1, 0, 0] (bd Try.f62)) := by kernel_rfl
 rw [e]
 refine loop_ok (ann := .none) (cx Ec35_ok) 28 rfl rfl (annOk_of_cuts nc) (by rintro ⟨t0, t3⟩; kernel_rfl)
theorem callsc62 : CallsL Try.prog 62 Sc62 Fc62 := by
 refine fcalls (fn := Try.f62) (c := (bd Try.f62)) (ann := annc62) (cx Ec35_ok) (by kernel_rfl) (annOk_of_cuts ?_) (by intro x; kernel_rfl)
 exact cut1 (by kernel_rfl) okc62_0
noncomputable def Ec62 : List (Nat × Ent) := (62, (funEntL Sc62 true Fc62)) :: Ec35
theorem Ec62_ok : EntsOk Try.prog (ofL Ec62) := cons_ok (fn := Try.f62) (c := (bd Try.f62)) (by kernel_rfl) callsc62 Ec35_ok
abbrev Sc63 : FL := ⟨⟨[], [.env 0 (.c (.int .i64))], []⟩, 1, [(.ret, ⟨[], [.env 0 (.c (.bool))], []⟩)], [.tmp 2], false⟩
noncomputable def Fc63 : Int -> Option ((Bool))
 | a0 =>
 if (a0 == 1) = false then
 if (a0 == 2) = false then
 if (decide (a0 > 100)) = true then
 if (decide (a0 < 112)) = false then
 if (decide (a0 ≥ 201)) = true then
 some (decide (a0 ≤ 203))
 else
 some false
 else
 some true
 else
 if (decide (a0 ≥ 201)) = true then
 some (decide (a0 ≤ 203))
 else
 some false
 else
 some true
 else
 some true
theorem callsc63 : CallsL Try.prog 63 Sc63 Fc63 := by
 refine fcalls (fn := Try.f63) (c := (bd Try.f63)) (ann := .none) (cx Ec62_ok) (by kernel_rfl) (annOk_of_cuts nc) (by intro x; kernel_rfl)
noncomputable def Ec63 : List (Nat × Ent) := (63, (funEntL Sc63 true Fc63)) :: Ec62
theorem Ec63_ok : EntsOk Try.prog (ofL Ec63) := cons_ok (fn := Try.f63) (c := (bd Try.f63)) (by kernel_rfl) callsc63 Ec62_ok
abbrev Sc38 : FL := ⟨⟨[], [.env 0 (.agg [.int .u64, .str, .str, .fz (.int .u8), .fz (.pair (.int .i64) (.pair .bool (.sl (.int .u8)))), .fz (.int .u8)]), .env 1 (.c (.bool))], []⟩, 2, [(.ret, ⟨[], [.env 0 (.c (.int .i64))], []⟩)], [.tmp 4], false⟩
abbrev lc38_0 : Lay := ⟨[(2, .ptr 2 0 6)], [.env 7 (.c (.int .i64)), .reg 2 (.cells [.int .u64, .str, .str, .fz (.int .u8), .fz (.pair (.int .i64) (.pair .bool (.sl (.int .u8)))), .fz (.int .u8)])], [(2, .env 2 0)]⟩
abbrev oc38_0 : List (AExit × Lay) := [(.ret, ⟨[], [.env 4 (.c (.int .i64))], []⟩), (.exit 0, ⟨[(2, .ptr 2 0 6)], [.reg 2 (.cells [.int .u64, .str, .str, .fz (.int .u8), .fz (.pair (.int .i64) (.pair .bool (.sl (.int .u8)))), .fz (.int .u8)])], [(2, .env 2 0)]⟩)]
noncomputable def stepc38_0 : Int × (Int × ByteArray × ByteArray × (List Int) × (List (Int × (Bool × (List Int)))) × (List Int)) -> Option ((Int × (Int × ByteArray × ByteArray × (List Int) × (List (Int × (Bool × (List Int)))) × (List Int))) ⊕ ((Int) ⊕ (Int × ByteArray × ByteArray × (List Int) × (List (Int × (Bool × (List Int)))) × (List Int))))
 | (t7, r2) =>
 if (decide (t7 < (r2.2.2.2.2.1.length : Int))) = true then
 if (0 : Int) ≤ t7 ∧ t7 < (r2.2.2.2.2.1.length : Int) then
 let x3 : Int := (r2.2.2.2.2.1.getD t7.toNat (DT.dflt (.pair (.int .i64) (.pair .bool (.sl (.int .u8)))))).1
 if (decide (x3 < 1)) = false then
 if (0 : Int) ≤ t7 ∧ t7 < (r2.2.2.2.2.1.length : Int) then
 let x4 : Int := (r2.2.2.2.2.1.getD t7.toNat (DT.dflt (.pair (.int .i64) (.pair .bool (.sl (.int .u8)))))).1
 if (decide (x4 > 2147483647)) = true then
 some (.inr (.inl 134))
 else
 some (.inl ((IntKind.i64.wrap (t7 + 1)), (r2.1, r2.2.1, r2.2.2.1, r2.2.2.2.1, r2.2.2.2.2.1, r2.2.2.2.2.2)))
 else none
 else
 some (.inr (.inl 134))
 else none
 else
 some (.inr (.inr (r2.1, r2.2.1, r2.2.2.1, r2.2.2.2.1, r2.2.2.2.2.1, r2.2.2.2.2.2)))
abbrev lc38_2 : Lay := ⟨[(2, .ptr 2 0 6)], [.env 8 (.c (.int .i64)), .env 9 (.c (.int .i64)), .reg 2 (.cells [.int .u64, .str, .str, .fz (.int .u8), .fz (.pair (.int .i64) (.pair .bool (.sl (.int .u8)))), .fz (.int .u8)])], [(2, .env 2 0)]⟩
abbrev oc38_2 : List (AExit × Lay) := [(.ret, ⟨[], [.env 4 (.c (.int .i64))], []⟩), (.exit 4, ⟨[(2, .ptr 2 0 6)], [.env 8 (.c (.int .i64)), .reg 2 (.cells [.int .u64, .str, .str, .fz (.int .u8), .fz (.pair (.int .i64) (.pair .bool (.sl (.int .u8)))), .fz (.int .u8)])], [(2, .env 2 0)]⟩)]
noncomputable def stepc38_2 : Int × Int × (Int × ByteArray × ByteArray × (List Int) × (List (Int × (Bool × (List Int)))) × (List Int)) -> Option ((Int × Int × (Int × ByteArray × ByteArray × (List Int) × (List (Int × (Bool × (List Int)))) × (List Int))) ⊕ ((Int) ⊕ (Int × (Int × ByteArray × ByteArray × (List Int) × (List (Int × (Bool × (List Int)))) × (List Int)))))
 | (t8, t9, r2) =>
 if (decide (t9 < t8)) = true then
 if (0 : Int) ≤ t9 ∧ t9 < (r2.2.2.2.2.1.length : Int) then
 let x7 : Int := (r2.2.2.2.2.1.getD t9.toNat (DT.dflt (.pair (.int .i64) (.pair .bool (.sl (.int .u8)))))).1
 if (0 : Int) ≤ t8 ∧ t8 < (r2.2.2.2.2.1.length : Int) then
 let x8 : Int := (r2.2.2.2.2.1.getD t8.toNat (DT.dflt (.pair (.int .i64) (.pair .bool (.sl (.int .u8)))))).1
 if (x7 == x8) = true then
 some (.inr (.inl 132))
 else
 some (.inl (t8, (IntKind.i64.wrap (t9 + 1)), (r2.1, r2.2.1, r2.2.2.1, r2.2.2.2.1, r2.2.2.2.2.1, r2.2.2.2.2.2)))
 else none
 else none
 else
 some (.inr (.inr (t8, (r2.1, r2.2.1, r2.2.2.1, r2.2.2.2.1, r2.2.2.2.2.1, r2.2.2.2.2.2))))
abbrev lc38_1 : Lay := ⟨[(2, .ptr 2 0 6)], [.env 8 (.c (.int .i64)), .reg 2 (.cells [.int .u64, .str, .str, .fz (.int .u8), .fz (.pair (.int .i64) (.pair .bool (.sl (.int .u8)))), .fz (.int .u8)])], [(2, .env 2 0)]⟩
abbrev oc38_1 : List (AExit × Lay) := [(.ret, ⟨[], [.env 4 (.c (.int .i64))], []⟩), (.exit 2, ⟨[(2, .ptr 2 0 6)], [.reg 2 (.cells [.int .u64, .str, .str, .fz (.int .u8), .fz (.pair (.int .i64) (.pair .bool (.sl (.int .u8)))), .fz (.int .u8)])], [(2, .env 2 0)]⟩)]
noncomputable def stepc38_1 : Int × (Int × ByteArray × ByteArray × (List Int) × (List (Int × (Bool × (List Int)))) × (List Int)) -> Option ((Int × (Int × ByteArray × ByteArray × (List Int) × (List (Int × (Bool × (List Int)))) × (List Int))) ⊕ ((Int) ⊕ (Int × ByteArray × ByteArray × (List Int) × (List (Int × (Bool × (List Int)))) × (List Int))))
 | (t8, r2) =>
 if (decide (t8 < (r2.2.2.2.2.1.length : Int))) = true then
 (loopO stepc38_2 (t8, 0, (r2.1, r2.2.1, r2.2.2.1, r2.2.2.2.1, r2.2.2.2.2.1, r2.2.2.2.2.2))).bind fun
 | (.inl z9) =>
 some (.inr (.inl z9))
 | (.inr (z10, z11)) =>
 some (.inl ((IntKind.i64.wrap (z10 + 1)), (z11.1, z11.2.1, z11.2.2.1, z11.2.2.2.1, z11.2.2.2.2.1, z11.2.2.2.2.2)))
 else
 some (.inr (.inr (r2.1, r2.2.1, r2.2.2.1, r2.2.2.2.1, r2.2.2.2.2.1, r2.2.2.2.2.2)))
noncomputable def annc38_1 : Ann := (.seq .none (.seq (.seq (.seq .none (.seq (.cut (cutEnt lc38_2 oc38_2 (loopO (stepc38_2)))) .none)) .none) .none))
abbrev lc38_3 : Lay := ⟨[(2, .ptr 2 0 6)], [.env 10 (.c (.int .i64)), .reg 2 (.cells [.int .u64, .str, .str, .fz (.int .u8), .fz (.pair (.int .i64) (.pair .bool (.sl (.int .u8)))), .fz (.int .u8)])], [(2, .env 2 0)]⟩
abbrev oc38_3 : List (AExit × Lay) := [(.ret, ⟨[], [.env 4 (.c (.int .i64))], []⟩), (.exit 6, ⟨[], [], []⟩)]
noncomputable def stepc38_3 : Int × (Int × ByteArray × ByteArray × (List Int) × (List (Int × (Bool × (List Int)))) × (List Int)) -> Option ((Int × (Int × ByteArray × ByteArray × (List Int) × (List (Int × (Bool × (List Int)))) × (List Int))) ⊕ ((Int) ⊕ (Unit)))
 | (t10, r2) =>
 if (decide (t10 < (r2.2.2.2.2.1.length : Int))) = true then
 if (0 : Int) ≤ t10 ∧ t10 < (r2.2.2.2.2.1.length : Int) then
 let x14 : Int := (r2.2.2.2.2.1.getD t10.toNat (DT.dflt (.pair (.int .i64) (.pair .bool (.sl (.int .u8)))))).1
 (Fc63 x14).bind fun y15 =>
 if (0 : Int) ≤ t10 ∧ t10 < (r2.2.2.2.2.1.length : Int) then
 let x16 : Bool := (r2.2.2.2.2.1.getD t10.toNat (DT.dflt (.pair (.int .i64) (.pair .bool (.sl (.int .u8)))))).2.1
 if x16 = true then
 if (!y15) = true then
 some (.inr (.inl 133))
 else
 some (.inl ((IntKind.i64.wrap (t10 + 1)), (r2.1, r2.2.1, r2.2.2.1, r2.2.2.2.1, r2.2.2.2.2.1, r2.2.2.2.2.2)))
 else
 some (.inl ((IntKind.i64.wrap (t10 + 1)), (r2.1, r2.2.1, r2.2.2.1, r2.2.2.2.1, r2.2.2.2.2.1, r2.2.2.2.2.2)))
 else none
 else none
 else
 some (.inr (.inr ()))
noncomputable def Fc38 : (Int × ByteArray × ByteArray × (List Int) × (List (Int × (Bool × (List Int)))) × (List Int)) × Bool -> Option ((Int))
 | (a0, a1) =>
 (Fc62 a0.2.1).bind fun y1 =>
 (Fc62 a0.2.2.1).bind fun y2 =>
 if (!y1) = false then
 if (!y2) = false then
 if ((a0.2.2.2.1.length : Int) != 2017) = false then
 if a1 = true then
 if ((a0.2.2.2.2.2.length : Int) != 3373) = false then
 if (decide ((a0.2.2.2.2.1.length : Int) > 16)) = true then
 some 134
 else
 (loopO stepc38_0 (0, (a0.1, a0.2.1, a0.2.2.1, a0.2.2.2.1, a0.2.2.2.2.1, a0.2.2.2.2.2))).bind fun
 | (.inl z5) =>
 some z5
 | (.inr z6) =>
 (loopO stepc38_1 (0, (z6.1, z6.2.1, z6.2.2.1, z6.2.2.2.1, z6.2.2.2.2.1, z6.2.2.2.2.2))).bind fun
 | (.inl z12) =>
 some z12
 | (.inr z13) =>
 (loopO stepc38_3 (0, (z13.1, z13.2.1, z13.2.2.1, z13.2.2.2.1, z13.2.2.2.2.1, z13.2.2.2.2.2))).bind fun
 | (.inl z17) =>
 some z17
 | (.inr _) =>
 some 0
 else
 some 134
 else
 if (decide ((a0.2.2.2.2.1.length : Int) > 16)) = true then
 some 134
 else
 (loopO stepc38_0 (0, (a0.1, a0.2.1, a0.2.2.1, a0.2.2.2.1, a0.2.2.2.2.1, a0.2.2.2.2.2))).bind fun
 | (.inl z18) =>
 some z18
 | (.inr z19) =>
 (loopO stepc38_1 (0, (z19.1, z19.2.1, z19.2.2.1, z19.2.2.2.1, z19.2.2.2.2.1, z19.2.2.2.2.2))).bind fun
 | (.inl z20) =>
 some z20
 | (.inr z21) =>
 (loopO stepc38_3 (0, (z21.1, z21.2.1, z21.2.2.1, z21.2.2.2.1, z21.2.2.2.2.1, z21.2.2.2.2.2))).bind fun
 | (.inl z22) =>
 some z22
 | (.inr _) =>
 some 0
 else
 some 134
 else
 some 134
 else
 some 134
noncomputable def annc38 : Ann := (.seq .none (.seq .none (.seq .none (.seq .none (.seq (.seq .none (.seq (.cut (cutEnt lc38_0 oc38_0 (loopO (stepc38_0)))) .none)) (.seq (.seq .none (.seq (.cut (cutEnt lc38_1 oc38_1 (loopO (stepc38_1)))) .none)) (.seq (.seq .none (.seq (.cut (cutEnt lc38_3 oc38_3 (loopO (stepc38_3)))) .none)) .none)))))))
theorem okc38_0 : LOk Try.prog 117 (cutEnt lc38_0 oc38_0 (loopO stepc38_0)) (Code.at' [1, 1, 1, 1, 0, 1, 0] (bd Try.f38)) := by
 have e : Code.at' [1, 1, 1, 1, 0, 1, 0] (bd Try.f38) = .loop (Code.at' [1, 1, 1, 1, 0, 1, 0, 0] (bd Try.f38)) := by kernel_rfl
 rw [e]
 refine loop_ok (ann := .none) (cx Ec63_ok) 117 rfl rfl (annOk_of_cuts nc) (by rintro ⟨t7, r2⟩; kernel_rfl)
theorem okc38_2 : LOk Try.prog 117 (cutEnt lc38_2 oc38_2 (loopO stepc38_2)) (Code.at' [1, 1, 1, 1, 1, 0, 1, 0, 0, 1, 0, 0, 1, 0] (bd Try.f38)) := by
 have e : Code.at' [1, 1, 1, 1, 1, 0, 1, 0, 0, 1, 0, 0, 1, 0] (bd Try.f38) = .loop (Code.at' [1, 1, 1, 1, 1, 0, 1, 0, 0, 1, 0, 0, 1, 0, 0] (bd Try.f38)) := by kernel_rfl
 rw [e]
 refine loop_ok (ann := .none) (cx Ec63_ok) 117 rfl rfl (annOk_of_cuts nc) (by rintro ⟨t8, t9, r2⟩; kernel_rfl)
theorem okc38_1 : LOk Try.prog 117 (cutEnt lc38_1 oc38_1 (loopO stepc38_1)) (Code.at' [1, 1, 1, 1, 1, 0, 1, 0] (bd Try.f38)) := by
 have e : Code.at' [1, 1, 1, 1, 1, 0, 1, 0] (bd Try.f38) = .loop (Code.at' [1, 1, 1, 1, 1, 0, 1, 0, 0] (bd Try.f38)) := by kernel_rfl
 rw [e]
 refine loop_ok (ann := annc38_1) (cx Ec63_ok) 117 rfl rfl (annOk_of_cuts ?_) (by rintro ⟨t8, r2⟩; kernel_rfl)
 have hc : Ann.cuts annc38_1 = [([1, 0, 0, 1, 0], (cutEnt lc38_2 oc38_2 (loopO (stepc38_2))))] := by kernel_rfl
 rw [hc]
 intro x hx
 simp only [List.mem_cons, List.not_mem_nil, or_false] at hx
 rcases hx with rfl
 ·have e : Code.at' [1, 0, 0, 1, 0] (Code.at' [1, 1, 1, 1, 1, 0, 1, 0, 0] (bd Try.f38)) = Code.at' [1, 1, 1, 1, 1, 0, 1, 0, 0, 1, 0, 0, 1, 0] (bd Try.f38) := by kernel_rfl
  rw [e]; exact okc38_2
theorem okc38_3 : LOk Try.prog 117 (cutEnt lc38_3 oc38_3 (loopO stepc38_3)) (Code.at' [1, 1, 1, 1, 1, 1, 0, 1, 0] (bd Try.f38)) := by
 have e : Code.at' [1, 1, 1, 1, 1, 1, 0, 1, 0] (bd Try.f38) = .loop (Code.at' [1, 1, 1, 1, 1, 1, 0, 1, 0, 0] (bd Try.f38)) := by kernel_rfl
 rw [e]
 refine loop_ok (ann := .none) (cx Ec63_ok) 117 rfl rfl (annOk_of_cuts nc) (by rintro ⟨t10, r2⟩; kernel_rfl)
theorem callsc38 : CallsL Try.prog 38 Sc38 Fc38 := by
 refine fcalls (fn := Try.f38) (c := (bd Try.f38)) (ann := annc38) (cx Ec63_ok) (by kernel_rfl) (annOk_of_cuts ?_) (by rintro ⟨a0, a1⟩; kernel_rfl)
 exact cut3 (by kernel_rfl) okc38_0 okc38_1 okc38_3
noncomputable def Ec38 : List (Nat × Ent) := (38, (funEntL Sc38 true Fc38)) :: Ec63
theorem Ec38_ok : EntsOk Try.prog (ofL Ec38) := cons_ok (fn := Try.f38) (c := (bd Try.f38)) (by kernel_rfl) callsc38 Ec63_ok
abbrev Sc64 : FL := ⟨⟨[], [.env 0 (.dat .item), .env 1 (.c (.int .i64))], []⟩, 2, [(.ret, ⟨[], [.env 0 (.c (.int .i64))], []⟩)], [.tmp 4], false⟩
noncomputable def cc64 (G : Sc64.inT -> Option Sc64.outT) (hG : CallsL Try.prog 64 Sc64 G) : Ctx Try.prog := ⟨ctab, ofL ((64, funEntL Sc64 true G) :: Ec38), ctabOk, .cons (fun_okL (fn := Try.f64) (c := (bd Try.f64)) (by kernel_rfl) (by kernel_rfl) (by kernel_rfl) (by kernel_rfl) hG) Ec38_ok, cdep, cord⟩
abbrev lc64_0 : Lay := ⟨[(2, .ptr 2 0 3)], [.env 1 (.c (.int .i64)), .env 7 (.c (.int .i64)), .reg 2 (.cells [.int .u8, .fz (.int .u8), .fz .item])], [(2, .env 2 0)]⟩
abbrev oc64_0 : List (AExit × Lay) := [(.ret, ⟨[], [.env 4 (.c (.int .i64))], []⟩), (.exit 0, ⟨[], [], []⟩)]
noncomputable def stepc64_0 (G : Tree × Int -> Option ((Int))) : Int × Int × (Int × (List Int) × (List Tree)) -> Option ((Int × Int × (Int × (List Int) × (List Tree))) ⊕ ((Int) ⊕ (Unit)))
 | (t1, t7, r2) =>
 if (decide (t7 < (r2.2.2.length : Int))) = true then
 if (0 : Int) ≤ t7 ∧ t7 < (r2.2.2.length : Int) then
 (G ((Tree.node (r2.2.2.getD t7.toNat (DT.dflt .item)).tag (r2.2.2.getD t7.toNat (DT.dflt .item)).body (r2.2.2.getD t7.toNat (DT.dflt .item)).kids), (IntKind.i64.wrap (t1 + 1)))).bind fun y3 =>
 if (y3 != 0) = true then
 some (.inr (.inl y3))
 else
 some (.inl (t1, (IntKind.i64.wrap (t7 + 1)), (r2.1, r2.2.1, r2.2.2)))
 else none
 else
 some (.inr (.inr ()))
noncomputable def annc64_0 (G : Tree × Int -> Option ((Int))) : Ann := .none
noncomputable def Bc64 (G : Tree × Int -> Option ((Int))) : Tree × Int -> Option ((Int))
 | (a0, a1) =>
 if (decide (a1 > 16)) = true then
 some 125
 else
 (Fc89 a0.tag).bind fun y1 =>
 if y1 = true then
 some 123
 else
 (Fc91 a0.tag).bind fun y2 =>
 if y2 = true then
 if (decide ((a0.body.length : Int) > 0)) = false then
 if (!y2) = true then
 if (decide ((a0.kids.length : Int) > 0)) = true then
 some 127
 else
 (loopO (stepc64_0 G) (a1, 0, (a0.tag, a0.body, a0.kids))).bind fun
 | (.inl z4) =>
 some z4
 | (.inr _) =>
 some 0
 else
 (loopO (stepc64_0 G) (a1, 0, (a0.tag, a0.body, a0.kids))).bind fun
 | (.inl z5) =>
 some z5
 | (.inr _) =>
 some 0
 else
 some 127
 else
 if (!y2) = true then
 if (decide ((a0.kids.length : Int) > 0)) = true then
 some 127
 else
 (loopO (stepc64_0 G) (a1, 0, (a0.tag, a0.body, a0.kids))).bind fun
 | (.inl z6) =>
 some z6
 | (.inr _) =>
 some 0
 else
 (loopO (stepc64_0 G) (a1, 0, (a0.tag, a0.body, a0.kids))).bind fun
 | (.inl z7) =>
 some z7
 | (.inr _) =>
 some 0
noncomputable def annc64 (G : Tree × Int -> Option ((Int))) : Ann := (.seq .none (.seq .none (.seq .none (.seq .none (.seq .none (.seq .none (.seq (.seq .none (.seq (.cut (cutEnt lc64_0 oc64_0 (loopO (stepc64_0 G)))) .none)) .none)))))))
theorem okc64_0 (G : Sc64.inT -> Option Sc64.outT) (hG : CallsL Try.prog 64 Sc64 G) : LOk Try.prog 53 (cutEnt lc64_0 oc64_0 (loopO (stepc64_0 G))) (Code.at' [1, 1, 1, 1, 1, 1, 0, 1, 0] (bd Try.f64)) := by
 have e : Code.at' [1, 1, 1, 1, 1, 1, 0, 1, 0] (bd Try.f64) = .loop (Code.at' [1, 1, 1, 1, 1, 1, 0, 1, 0, 0] (bd Try.f64)) := by kernel_rfl
 rw [e]
 refine loop_ok (ann := (annc64_0 G)) (cc64 G hG) 53 rfl rfl (annOk_of_cuts nc) (by rintro ⟨t1, t7, r2⟩; kernel_rfl)
theorem bcallsc64 (G : Sc64.inT -> Option Sc64.outT) (hG : CallsL Try.prog 64 Sc64 G) : CallsL Try.prog 64 Sc64 (Bc64 G) := by
 refine fcalls (fn := Try.f64) (c := (bd Try.f64)) (ann := (annc64 G)) (cc64 G hG) (by kernel_rfl) (annOk_of_cuts ?_) (by rintro ⟨a0, a1⟩; kernel_rfl)
 exact cut1 (by kernel_rfl) (okc64_0 G hG)
noncomputable def FRc64 : Nat -> Tree × Int -> Option ((Int))
 | 0 => fun _ => none
 | k + 1 => Bc64 (FRc64 k)
theorem rcallsc64 : ∀ k, CallsL Try.prog 64 Sc64 (FRc64 k)
 | 0 => fun _ _ _ _ _ _ _ _ h => by cases h
 | k + 1 => bcallsc64 (FRc64 k) (rcallsc64 k)
noncomputable def Fc64 (x : Tree × Int) : Option ((Int)) := FRc64 (20) x
theorem callsc64 : CallsL Try.prog 64 Sc64 Fc64 := fun us x y w fp β h1 h2 h3 h4 => rcallsc64 _ us x y w fp β h1 h2 h3 h4
noncomputable def Ec64 : List (Nat × Ent) := (64, (funEntL Sc64 true Fc64)) :: Ec38
theorem Ec64_ok : EntsOk Try.prog (ofL Ec64) := cons_ok (fn := Try.f64) (c := (bd Try.f64)) (by kernel_rfl) callsc64 Ec38_ok
abbrev Sc95 : FL := ⟨⟨[], [.env 0 (.c (.int .u8)), .env 1 (.c (.int .i64))], []⟩, 2, [(.ret, ⟨[(0, .full 1)], [.reg 1 (.row 5 .u8)], [(1, .env 0 0)]⟩)], [.tmp 4], false⟩
noncomputable def Fc95 : Int × Int -> Option ((List Int))
 | (a0, a1) =>
 if (decide (a1 < 128)) = true then
 let f1 : List Int := (((List.replicate 2 (0 : Int)).set 0 a0).set 1 (IntKind.u8.wrap a1))
 some f1
 else
 if (decide (a1 < 256)) = true then
 let f2 : List Int := ((((List.replicate 3 (0 : Int)).set 0 a0).set 1 129).set 2 (IntKind.u8.wrap a1))
 some f2
 else
 if (decide (a1 < 65536)) = true then
 let f3 : List Int := (((((List.replicate 4 (0 : Int)).set 0 a0).set 1 130).set 2 (IntKind.u8.wrap (IntKind.i64.wrap (a1.tdiv 256)))).set 3 (IntKind.u8.wrap (a1.tmod 256)))
 some f3
 else
 let x4 : Int := (IntKind.u8.wrap ((IntKind.i64.wrap (a1.tdiv 256)).tmod 256))
 let f5 : List Int := ((((((List.replicate 5 (0 : Int)).set 0 a0).set 1 131).set 2 (IntKind.u8.wrap (IntKind.i64.wrap (a1.tdiv 65536)))).set 3 x4).set 4 (IntKind.u8.wrap (a1.tmod 256)))
 some f5
theorem callsc95 : CallsL Try.prog 95 Sc95 Fc95 := by
 refine fcalls (fn := Try.f95) (c := (bd Try.f95)) (ann := .none) (cx Ec64_ok) (by kernel_rfl) (annOk_of_cuts nc) (by rintro ⟨a0, a1⟩; kernel_rfl)
noncomputable def Ec95 : List (Nat × Ent) := (95, (funEntL Sc95 true Fc95)) :: Ec64
theorem Ec95_ok : EntsOk Try.prog (ofL Ec95) := cons_ok (fn := Try.f95) (c := (bd Try.f95)) (by kernel_rfl) callsc95 Ec64_ok
abbrev Sc65 : FL := ⟨⟨[], [.env 0 (.dat .item)], []⟩, 1, [(.ret, ⟨[(0, .full 1)], [.reg 1 (.row 5 .u8)], [(1, .env 0 0)]⟩)], [.tmp 2], false⟩
noncomputable def cc65 (G : Sc65.inT -> Option Sc65.outT) (hG : CallsL Try.prog 65 Sc65 G) : Ctx Try.prog := ⟨ctab, ofL ((65, funEntL Sc65 true G) :: Ec95), ctabOk, .cons (fun_okL (fn := Try.f65) (c := (bd Try.f65)) (by kernel_rfl) (by kernel_rfl) (by kernel_rfl) (by kernel_rfl) hG) Ec95_ok, cdep, cord⟩
abbrev lc65_0 : Lay := ⟨[(1, .ptr 1 0 3), (3, .full 3)], [.env 5 (.c (.int .i64)), .reg 1 (.cells [.int .u8, .fz (.int .u8), .fz .item]), .reg 3 (.row 5 .u8)], [(1, .env 1 0), (3, .env 3 0)]⟩
abbrev oc65_0 : List (AExit × Lay) := [(.exit 0, ⟨[(1, .ptr 1 0 3), (3, .full 3)], [.reg 1 (.cells [.int .u8, .fz (.int .u8), .fz .item]), .reg 3 (.row 5 .u8)], [(1, .env 1 0), (3, .env 3 0)]⟩)]
noncomputable def stepc65_0 (G : Tree -> Option ((List Int))) : Int × (Int × (List Int) × (List Tree)) × List Int -> Option ((Int × (Int × (List Int) × (List Tree)) × List Int) ⊕ (((Int × (List Int) × (List Tree)) × List Int)))
 | (t5, r1, r3) =>
 if (decide (t5 < (r1.2.2.length : Int))) = true then
 if (decide ((r3.length : Int) ≤ 65536)) = true then
 if (0 : Int) ≤ t5 ∧ t5 < (r1.2.2.length : Int) then
 (G (Tree.node (r1.2.2.getD t5.toNat (DT.dflt .item)).tag (r1.2.2.getD t5.toNat (DT.dflt .item)).body (r1.2.2.getD t5.toNat (DT.dflt .item)).kids)).bind fun y2 =>
 if okBytes (r3.length + y2.length) 1 then
 some (.inl ((IntKind.i64.wrap (t5 + 1)), (r1.1, r1.2.1, r1.2.2), (r3 ++ y2)))
 else none
 else none
 else
 some (.inr ((r1.1, r1.2.1, r1.2.2), r3))
 else
 some (.inr ((r1.1, r1.2.1, r1.2.2), r3))
noncomputable def annc65_0 (G : Tree -> Option ((List Int))) : Ann := .none
noncomputable def Bc65 (G : Tree -> Option ((List Int))) : Tree -> Option ((List Int))
 | a0 =>
 (Fc91 a0.tag).bind fun y1 =>
 if y1 = true then
 (loopO (stepc65_0 G) (0, (a0.tag, a0.body, a0.kids), ([] : List Int))).bind fun (z3, z4) =>
 if (decide ((z4.length : Int) > 65536)) = true then
 (Fc95 (z3.1, 65536)).bind fun y5 =>
 if okBytes (y5.length + z4.length) 1 then
 some (y5 ++ z4)
 else none
 else
 (Fc95 (z3.1, (z4.length : Int))).bind fun y6 =>
 if okBytes (y6.length + z4.length) 1 then
 some (y6 ++ z4)
 else none
 else
 if (decide ((a0.body.length : Int) > 65536)) = true then
 (Fc95 (a0.tag, 65536)).bind fun y7 =>
 if okBytes (y7.length + a0.body.length) 1 then
 some (y7 ++ a0.body)
 else none
 else
 (Fc95 (a0.tag, (a0.body.length : Int))).bind fun y8 =>
 if okBytes (y8.length + a0.body.length) 1 then
 some (y8 ++ a0.body)
 else none
noncomputable def annc65 (G : Tree -> Option ((List Int))) : Ann := (.seq .none (.seq .none (.seq .none (.seq (.seq .none (.seq (.seq .none (.seq .none (.seq (.cut (cutEnt lc65_0 oc65_0 (loopO (stepc65_0 G)))) .none))) .none)) .none))))
theorem okc65_0 (G : Sc65.inT -> Option Sc65.outT) (hG : CallsL Try.prog 65 Sc65 G) : LOk Try.prog 47 (cutEnt lc65_0 oc65_0 (loopO (stepc65_0 G))) (Code.at' [1, 1, 1, 0, 1, 0, 1, 1, 0] (bd Try.f65)) := by
 have e : Code.at' [1, 1, 1, 0, 1, 0, 1, 1, 0] (bd Try.f65) = .loop (Code.at' [1, 1, 1, 0, 1, 0, 1, 1, 0, 0] (bd Try.f65)) := by kernel_rfl
 rw [e]
 refine loop_ok (ann := (annc65_0 G)) (cc65 G hG) 47 rfl rfl (annOk_of_cuts nc) (by rintro ⟨t5, r1, r3⟩; kernel_rfl)
theorem bcallsc65 (G : Sc65.inT -> Option Sc65.outT) (hG : CallsL Try.prog 65 Sc65 G) : CallsL Try.prog 65 Sc65 (Bc65 G) := by
 refine fcalls (fn := Try.f65) (c := (bd Try.f65)) (ann := (annc65 G)) (cc65 G hG) (by kernel_rfl) (annOk_of_cuts ?_) (by intro x; kernel_rfl)
 exact cut1 (by kernel_rfl) (okc65_0 G hG)
noncomputable def FRc65 : Nat -> Tree -> Option ((List Int))
 | 0 => fun _ => none
 | k + 1 => Bc65 (FRc65 k)
theorem rcallsc65 : ∀ k, CallsL Try.prog 65 Sc65 (FRc65 k)
 | 0 => fun _ _ _ _ _ _ _ _ h => by cases h
 | k + 1 => bcallsc65 (FRc65 k) (rcallsc65 k)
noncomputable def Fc65 (x : Tree) : Option ((List Int)) := FRc65 (Tree.rank x + 1) x
theorem callsc65 : CallsL Try.prog 65 Sc65 Fc65 := fun us x y w fp β h1 h2 h3 h4 => rcallsc65 _ us x y w fp β h1 h2 h3 h4
noncomputable def Ec65 : List (Nat × Ent) := (65, (funEntL Sc65 true Fc65)) :: Ec95
theorem Ec65_ok : EntsOk Try.prog (ofL Ec65) := cons_ok (fn := Try.f65) (c := (bd Try.f65)) (by kernel_rfl) callsc65 Ec95_ok
abbrev Sc39 : FL := ⟨⟨[], [.env 0 (.dat .item)], []⟩, 1, [(.ret, ⟨[(0, .full 3)], [.reg 3 (.row 5 .u8), .env 1 (.c (.int .i64))], [(3, .env 0 0)]⟩)], [.tmp 2, .tmp 3], false⟩
noncomputable def Fc39 : Tree -> Option ((List Int × Int))
 | a0 =>
 (Fc64 ((Tree.node a0.tag a0.body a0.kids), 1)).bind fun y1 =>
 if (y1 != 0) = true then
 some (([] : List Int), y1)
 else
 (Fc65 (Tree.node a0.tag a0.body a0.kids)).bind fun y2 =>
 if (decide ((y2.length : Int) > 65536)) = true then
 some (([] : List Int), 121)
 else
 some (y2, 0)
theorem callsc39 : CallsL Try.prog 39 Sc39 Fc39 := by
 refine fcalls (fn := Try.f39) (c := (bd Try.f39)) (ann := .none) (cx Ec65_ok) (by kernel_rfl) (annOk_of_cuts nc) (by intro x; kernel_rfl)
noncomputable def Ec39 : List (Nat × Ent) := (39, (funEntL Sc39 true Fc39)) :: Ec65
theorem Ec39_ok : EntsOk Try.prog (ofL Ec39) := cons_ok (fn := Try.f39) (c := (bd Try.f39)) (by kernel_rfl) callsc39 Ec65_ok
abbrev Sc7 : FL := ⟨⟨[], [.env 0 (.c (.fz (.int .u8)))], []⟩, 1, [(.ret, ⟨[], [.env 0 (.dat (.pair (.int .u64) (.pair .str (.pair .str (.pair (.sl (.int .u8)) (.pair (.sl (.pair (.int .i64) (.pair .bool (.sl (.int .u8))))) (.sl (.int .u8)))))))), .env 1 (.c (.fz (.int .u8))), .env 2 (.c (.int .i64))], []⟩)], [.cell 2 26, .tmp 3, .tmp 4], true⟩
noncomputable def Fc7 : (List Int) -> Option (((Int × (ByteArray × (ByteArray × ((List Int) × ((List (Int × (Bool × (List Int)))) × (List Int)))))) × (List Int) × Int))
 | a0 =>
 (Fc27 a0).bind fun (y1, y2) =>
 if (y2 != 0) = true then
 some ((0, (ByteArray.empty, (ByteArray.empty, (([] : List Int), (([] : List (Int × (Bool × (List Int)))), ([] : List Int)))))), ([] : List Int), y2)
 else
 (Fc28 ((Tree.node y1.tag y1.body y1.kids), 0)).bind fun y3 =>
 (Fc28 ((Tree.node y3.tag y3.body y3.kids), 3)).bind fun y4 =>
 (Fc29 (Tree.node y4.tag y4.body y4.kids)).bind fun y5 =>
 (Fc28 ((Tree.node y3.tag y3.body y3.kids), 5)).bind fun y6 =>
 (Fc29 (Tree.node y6.tag y6.body y6.kids)).bind fun y7 =>
 (Fc28 ((Tree.node y3.tag y3.body y3.kids), 1)).bind fun y8 =>
 (Fc30 (Tree.node y8.tag y8.body y8.kids)).bind fun (y9, y10) =>
 (Fc28 ((Tree.node y3.tag y3.body y3.kids), 6)).bind fun y11 =>
 (Fc28 ((Tree.node y11.tag y11.body y11.kids), 1)).bind fun y12 =>
 (Fc31 (Tree.node y12.tag y12.body y12.kids)).bind fun (y13, y14) =>
 (Fc28 ((Tree.node y1.tag y1.body y1.kids), 2)).bind fun y15 =>
 (Fc31 (Tree.node y15.tag y15.body y15.kids)).bind fun (y16, y17) =>
 if (y10 != 0) = false then
 if (y14 != 0) = false then
 if (y17 != 0) = true then
 some ((0, (ByteArray.empty, (ByteArray.empty, (([] : List Int), (([] : List (Int × (Bool × (List Int)))), ([] : List Int)))))), ([] : List Int), 131)
 else
 if ((y3.kids.length : Int) == 8) = true then
 if (0 : Int) ≤ (7 : Int) ∧ (7 : Int) < (y3.kids.length : Int) then
 (Fc32 (Tree.node (y3.kids.getD 7 (DT.dflt .item)).tag (y3.kids.getD 7 (DT.dflt .item)).body (y3.kids.getD 7 (DT.dflt .item)).kids)).bind fun (y18, y19) =>
 if (!y19) = true then
 some ((0, (ByteArray.empty, (ByteArray.empty, (([] : List Int), (([] : List (Int × (Bool × (List Int)))), ([] : List Int)))))), ([] : List Int), 131)
 else
 (Fc35 (y9, y5, y7, y13, y18, y16)).bind fun y20 =>
 (Fc36 ()).bind fun y21 =>
 (Fc37 y16).bind fun y22 =>
 let f23 : List Tree := ([(Tree.node y20.tag y20.body y20.kids), (Tree.node y21.tag y21.body y21.kids), (Tree.node y22.tag y22.body y22.kids)] : List Tree)
 (Fc34 (48, f23)).bind fun (y24, y25) =>
 (Fc33 ((Tree.node y1.tag y1.body y1.kids), (Tree.node y24.1 ([] : List Int) y25))).bind fun y26 =>
 if (!y26) = true then
 some ((0, (ByteArray.empty, (ByteArray.empty, (([] : List Int), (([] : List (Int × (Bool × (List Int)))), ([] : List Int)))))), ([] : List Int), 131)
 else
 (Fc38 ((y9, y5, y7, y13, y18, y16), true)).bind fun y27 =>
 if (y27 != 0) = true then
 some ((0, (ByteArray.empty, (ByteArray.empty, (([] : List Int), (([] : List (Int × (Bool × (List Int)))), ([] : List Int)))))), ([] : List Int), y27)
 else
 (Fc39 (Tree.node y3.tag y3.body y3.kids)).bind fun (y28, y29) =>
 some ((y9, (y5, (y7, (y13, (y18, y16))))), y28, 0)
 else none
 else
 (Fc35 (y9, y5, y7, y13, ([] : List (Int × (Bool × (List Int)))), y16)).bind fun y30 =>
 (Fc36 ()).bind fun y31 =>
 (Fc37 y16).bind fun y32 =>
 let f33 : List Tree := ([(Tree.node y30.tag y30.body y30.kids), (Tree.node y31.tag y31.body y31.kids), (Tree.node y32.tag y32.body y32.kids)] : List Tree)
 (Fc34 (48, f33)).bind fun (y34, y35) =>
 (Fc33 ((Tree.node y1.tag y1.body y1.kids), (Tree.node y34.1 ([] : List Int) y35))).bind fun y36 =>
 if (!y36) = true then
 some ((0, (ByteArray.empty, (ByteArray.empty, (([] : List Int), (([] : List (Int × (Bool × (List Int)))), ([] : List Int)))))), ([] : List Int), 131)
 else
 (Fc38 ((y9, y5, y7, y13, ([] : List (Int × (Bool × (List Int)))), y16), true)).bind fun y37 =>
 if (y37 != 0) = true then
 some ((0, (ByteArray.empty, (ByteArray.empty, (([] : List Int), (([] : List (Int × (Bool × (List Int)))), ([] : List Int)))))), ([] : List Int), y37)
 else
 (Fc39 (Tree.node y3.tag y3.body y3.kids)).bind fun (y38, y39) =>
 some ((y9, (y5, (y7, (y13, (([] : List (Int × (Bool × (List Int)))), y16))))), y38, 0)
 else
 some ((0, (ByteArray.empty, (ByteArray.empty, (([] : List Int), (([] : List (Int × (Bool × (List Int)))), ([] : List Int)))))), ([] : List Int), 131)
 else
 some ((0, (ByteArray.empty, (ByteArray.empty, (([] : List Int), (([] : List (Int × (Bool × (List Int)))), ([] : List Int)))))), ([] : List Int), 131)
theorem callsc7 : CallsL Try.prog 7 Sc7 Fc7 := by
 refine fcalls (fn := Try.f7) (c := (bd Try.f7)) (ann := .none) (cx Ec39_ok) (by kernel_rfl) (annOk_of_cuts nc) (by intro x; kernel_rfl)
noncomputable def Ec7 : List (Nat × Ent) := (7, (funEntL Sc7 true Fc7)) :: Ec39
theorem Ec7_ok : EntsOk Try.prog (ofL Ec7) := cons_ok (fn := Try.f7) (c := (bd Try.f7)) (by kernel_rfl) callsc7 Ec39_ok
abbrev Sc69 : FL := ⟨⟨[], [.env 0 (.c (.int .i64))], []⟩, 1, [(.panic 125 0, ⟨[], [], []⟩)], [], false⟩
noncomputable def Fc69 : Int -> Option (Int × Unit) := fun x => some (x, ())
noncomputable def opsc69 : Array Oper := opsOf (bd Try.f69)
theorem callsc69 : CallsL Try.prog 69 Sc69 Fc69 := by
 intro us x y w fp β hlen hdfs hF R
 match us, hlen with
 | [v], _ =>
 have hv : v = .int .i64 x := by
  have := R.env 0 _ rfl
  simp only [AVRel, CVRel] at this
  exact this
 subst hv
 cases hF
 refine calls_of_wp (fn := Try.f69) (c := (bd Try.f69)) (by kernel_rfl) (by kernel_rfl) ?_
 have hb : (bd Try.f69) = .region 0 opsc69 false := by kernel_rfl
 rw [hb]
 refine wp_region ?_
 have hs : List.range opsc69.size = [0, 1, 2, 3] := by kernel_rfl
 rw [hs]
 refine wpOps_val (o := opAt opsc69 0) (v := .int .i64 x) (w' := w) (by kernel_rfl) (by kernel_rfl) (by kernel_rfl) ?_
 refine wpOps_val (o := opAt opsc69 1) (v := .agg #[.int .i64 x]) (w' := w) (by kernel_rfl) (by kernel_rfl) (by kernel_rfl) ?_
 refine wpOps_val (o := opAt opsc69 2) (v := .iface 125 (.agg #[.int .i64 x])) (w' := w) (by kernel_rfl) (by kernel_rfl) (by kernel_rfl) ?_
 refine wpOps_halt (o := opAt opsc69 3) (v := .iface 125 (.agg #[.int .i64 x])) (w' := w) (by kernel_rfl) (by kernel_rfl) (by kernel_rfl) ?_
 have hfp : fp = ⟨fp.anc, fp.hb, []⟩ := by cases fp; simp only at hdfs; subst hdfs; rfl
 have R2 : Rel Try.prog w fp 0 β { env := fun _ => none, heap := (Sc69.inp.enc x).heap } { tmps := #[], defers := [] } w := by
  rw [hfp]
  exact (hfp ▸ R).act rfl rfl (Nat.zero_le _) (fun t av ht => by cases ht)
 exact ⟨rfl, β, [], R2, rfl, fun h => absurd rfl (h 125 x)⟩
noncomputable def Ec69 : List (Nat × Ent) := (69, funEntL Sc69 true Fc69) :: Ec7
theorem Ec69_ok : EntsOk Try.prog (ofL Ec69) := cons_ok (fn := Try.f69) (c := (bd Try.f69)) (by kernel_rfl) callsc69 Ec7_ok
abbrev Sc96 : FL := ⟨⟨[(0, .ptr 1000000 0 1)], [.reg 1000000 (.cells [.fz (.int .u8)])], [(1000000, .env 0 0)]⟩, 1, [(.panic 125 0, ⟨[], [], []⟩), (.ret, ⟨[], [.env 0 (.c (.int .u8)), .reg 1000000 (.cells [.fz (.int .u8)])], []⟩)], [.tmp 2], true⟩
noncomputable def Fc96 : (List Int) -> Option ((Int × (Unit)) ⊕ (Int × (List Int)))
 | io =>
 if ((io.length : Int) == 0) = true then
 (Fc69 122).bind fun (e1, _) =>
 some (.inl (e1, ()))
 else
 if (0 : Int) ≤ (0 : Int) ∧ (0 : Int) < (io.length : Int) then
 if (0 : Int) ≤ (1 : Int) ∧ (1 : Int) ≤ (io.length : Int) then
 some (.inr ((io.getD 0 0), (io.drop 1)))
 else none
 else none
theorem callsc96 : CallsL Try.prog 96 Sc96 Fc96 := by
 refine fcalls (fn := Try.f96) (c := (bd Try.f96)) (ann := .none) (cx Ec69_ok) (by kernel_rfl) (annOk_of_cuts nc) (by intro x; kernel_rfl)
noncomputable def Ec96 : List (Nat × Ent) := (96, (funEntL Sc96 true Fc96)) :: Ec69
theorem Ec96_ok : EntsOk Try.prog (ofL Ec96) := cons_ok (fn := Try.f96) (c := (bd Try.f96)) (by kernel_rfl) callsc96 Ec69_ok
abbrev Sc97 : FL := ⟨⟨[(0, .ptr 1000000 0 1)], [.reg 1000000 (.cells [.fz (.int .u8)]), .env 1 (.c (.int .i64))], [(1000000, .env 0 0)]⟩, 2, [(.panic 125 0, ⟨[], [], []⟩), (.ret, ⟨[], [.env 0 (.c (.fz (.int .u8))), .reg 1000000 (.cells [.fz (.int .u8)])], []⟩)], [.tmp 4], true⟩
noncomputable def Fc97 : (List Int) × Int -> Option ((Int × (Unit)) ⊕ ((List Int) × (List Int)))
 | (io, a1) =>
 if (decide (a1 > (io.length : Int))) = true then
 (Fc69 122).bind fun (e1, _) =>
 some (.inl (e1, ()))
 else
 if (0 : Int) ≤ a1 ∧ a1 ≤ (io.length : Int) then
 if (0 : Int) ≤ a1 ∧ a1 ≤ (io.length : Int) then
 some (.inr ((io.take a1.toNat), (io.drop a1.toNat)))
 else none
 else none
theorem callsc97 : CallsL Try.prog 97 Sc97 Fc97 := by
 refine fcalls (fn := Try.f97) (c := (bd Try.f97)) (ann := .none) (cx Ec96_ok) (by kernel_rfl) (annOk_of_cuts nc) (by rintro ⟨io, a1⟩; kernel_rfl)
noncomputable def Ec97 : List (Nat × Ent) := (97, (funEntL Sc97 true Fc97)) :: Ec96
theorem Ec97_ok : EntsOk Try.prog (ofL Ec97) := cons_ok (fn := Try.f97) (c := (bd Try.f97)) (by kernel_rfl) callsc97 Ec96_ok
abbrev Sc98 : FL := ⟨⟨[(0, .ptr 1000000 0 1)], [.reg 1000000 (.cells [.fz (.int .u8)])], [(1000000, .env 0 0)]⟩, 1, [(.panic 125 0, ⟨[], [], []⟩), (.ret, ⟨[], [.env 0 (.c (.int .i64)), .reg 1000000 (.cells [.fz (.int .u8)])], []⟩)], [.tmp 2], true⟩
abbrev lc98_0 : Lay := ⟨[], [.env 4 (.c (.int .i64)), .env 5 (.c (.fz (.int .u8))), .env 26 (.c (.fz (.int .u8))), .env 27 (.c (.int .i64)), .env 28 (.c (.int .i64)), .reg 1000000 (.cells [.fz (.int .u8)])], []⟩
abbrev oc98_0 : List (AExit × Lay) := [(.exit 0, ⟨[], [.env 4 (.c (.int .i64)), .env 5 (.c (.fz (.int .u8))), .reg 1000000 (.cells [.fz (.int .u8)])], []⟩)]
noncomputable def stepc98_0 : Int × (List Int) × (List Int) × Int × Int × (List Int) -> Option ((Int × (List Int) × (List Int) × Int × Int × (List Int)) ⊕ ((Int × (List Int) × (List Int))))
 | (t4, t5, t26, t27, t28, r1000000) =>
 if (decide (t28 < t27)) = true then
 if (0 : Int) ≤ t28 ∧ t28 < (t26.length : Int) then
 let x8 : Int := (bitsOr .i64 (shlI .i64 t4 8) (IntKind.i64.wrap (t26.getD t28.toNat 0)))
 some (.inl (x8, t5, t26, t27, (IntKind.i64.wrap (t28 + 1)), r1000000))
 else none
 else
 some (.inr (t4, t5, r1000000))
noncomputable def Fc98 : (List Int) -> Option ((Int × (Unit)) ⊕ (Int × (List Int)))
 | io =>
 (Fc96 io).bind fun
 | (.inl (e1, _)) =>
 some (.inl (e1, ()))
 | (.inr (y2, y3)) =>
 if (decide (y2 < 128)) = true then
 some (.inr ((IntKind.i64.wrap y2), y3))
 else
 if (y2 == 128) = false then
 if (decide (y2 > 131)) = true then
 (Fc69 124).bind fun (e4, _) =>
 some (.inl (e4, ()))
 else
 (Fc97 (y3, (IntKind.i64.wrap (bitsAnd .u8 y2 127)))).bind fun
 | (.inl (e5, _)) =>
 some (.inl (e5, ()))
 | (.inr (y6, y7)) =>
 (loopO stepc98_0 (0, y6, y6, (y6.length : Int), 0, y7)).bind fun (z9, z10, z11) =>
 if (0 : Int) ≤ (0 : Int) ∧ (0 : Int) < (z10.length : Int) then
 if ((z10.getD 0 0) == 0) = false then
 if (decide (z9 < 128)) = true then
 (Fc69 124).bind fun (e12, _) =>
 some (.inl (e12, ()))
 else
 some (.inr (z9, z11))
 else
 (Fc69 124).bind fun (e13, _) =>
 some (.inl (e13, ()))
 else none
 else
 (Fc69 124).bind fun (e14, _) =>
 some (.inl (e14, ()))
noncomputable def annc98 : Ann := (.seq .none (.seq .none (.seq .none (.seq .none (.seq .none (.seq .none (.seq (.seq .none (.seq (.cut (cutEnt lc98_0 oc98_0 (loopO (stepc98_0)))) .none)) .none)))))))
theorem okc98_0 : LOk Try.prog 48 (cutEnt lc98_0 oc98_0 (loopO stepc98_0)) (Code.at' [1, 1, 1, 1, 1, 1, 0, 1, 0] (bd Try.f98)) := by
 have e : Code.at' [1, 1, 1, 1, 1, 1, 0, 1, 0] (bd Try.f98) = .loop (Code.at' [1, 1, 1, 1, 1, 1, 0, 1, 0, 0] (bd Try.f98)) := by kernel_rfl
 rw [e]
 refine loop_ok (ann := .none) (cx Ec97_ok) 48 rfl rfl (annOk_of_cuts nc) (by rintro ⟨t4, t5, t26, t27, t28, r1000000⟩; kernel_rfl)
theorem callsc98 : CallsL Try.prog 98 Sc98 Fc98 := by
 refine fcalls (fn := Try.f98) (c := (bd Try.f98)) (ann := annc98) (cx Ec97_ok) (by kernel_rfl) (annOk_of_cuts ?_) (by intro x; kernel_rfl)
 exact cut1 (by kernel_rfl) okc98_0
noncomputable def Ec98 : List (Nat × Ent) := (98, (funEntL Sc98 true Fc98)) :: Ec97
theorem Ec98_ok : EntsOk Try.prog (ofL Ec98) := cons_ok (fn := Try.f98) (c := (bd Try.f98)) (by kernel_rfl) callsc98 Ec97_ok
abbrev Sc99 : FL := ⟨⟨[], [.env 0 (.c (.int .u8))], []⟩, 1, [(.ret, ⟨[], [.env 0 (.c (.bool))], []⟩)], [.tmp 2], false⟩
noncomputable def Fc99 : Int -> Option ((Bool))
 | a0 =>
 some ((bitsAnd .u8 a0 32) != 0)
theorem callsc99 : CallsL Try.prog 99 Sc99 Fc99 := by
 refine fcalls (fn := Try.f99) (c := (bd Try.f99)) (ann := .none) (cx Ec98_ok) (by kernel_rfl) (annOk_of_cuts nc) (by intro x; kernel_rfl)
noncomputable def Ec99 : List (Nat × Ent) := (99, (funEntL Sc99 true Fc99)) :: Ec98
theorem Ec99_ok : EntsOk Try.prog (ofL Ec99) := cons_ok (fn := Try.f99) (c := (bd Try.f99)) (by kernel_rfl) callsc99 Ec98_ok
abbrev Sc50 : FL := ⟨⟨[], [.env 0 (.c (.fz (.int .u8)))], []⟩, 1, [(.ret, ⟨[(0, .full 1)], [.reg 1 (.row 5 .u8)], [(1, .env 0 0)]⟩)], [.tmp 2], false⟩
noncomputable def Fc50 : List Int -> Option (List Int) := fun (x : List Int) => if okBytes x.length 1 then some x else none
noncomputable def oac50 : Array Oper := opsOf (Code.at' [0] (bd Try.f50))
noncomputable def obc50 : Array Oper := opsOf (Code.at' [1, 0, 0] (bd Try.f50))
theorem atc50 : (bd Try.f50) = .seq (.region 0 oac50 false) (.seq (.seq (.region 1 obc50 false) (.cond (.tmp 4) (Code.at' [1, 0, 1, 0] (bd Try.f50)) .skip)) (Code.at' [1, 1] (bd Try.f50))) := by kernel_rfl
theorem exac50 (x : List Int) : exec ctab (ofL cE0) 8 (Code.at' [1, 0, 1, 0] (bd Try.f50)) .none (finR ctab Sc50) (Sc50.inp.enc x) = some [] := by kernel_rfl
theorem exbc50 (x : List Int) : exec ctab (ofL cE0) 8 (Code.at' [1, 1] (bd Try.f50)) .none (finL ctab Sc50) (Sc50.inp.enc x) = if okBytes ((List.replicate 0 (0 : Int)).length + x.length) 1 then some ((List.replicate 0 (0 : Int)) ++ x) else none := by kernel_rfl
theorem callsc50 : CallsL Try.prog 50 Sc50 Fc50 := by
 intro us x y w fp β hlen hdfs hF R
 obtain ⟨anc, hb, dfs⟩ := fp
 have hdfs : dfs = [] := hdfs
 subst hdfs
 match us, hlen with
 | [v], _ =>
 have hok : okBytes (List.length (α := Int) x) 1 ∧ y = x := by
  unfold Fc50 at hF
  split at hF
  ·rename_i h; exact ⟨h, (Option.some.inj hF).symm⟩
  ·cases hF
 obtain ⟨hok, rfl⟩ := hok
 have h0 := R.env 0 _ rfl
 simp only [AVRel, CVRel] at h0
 have h1 : ∃ A cap, v = .slice A (List.length (α := Int) y) cap ∧ (A = none -> y = [] ∧ cap = 0) := by
  cases h0 with
  | fz _ _ _ A c hn hc h0 hat => exact ⟨A, c, rfl, h0⟩
 obtain ⟨A, cap, rfl, hA⟩ := h1
 refine calls_of_wp (fn := Try.f50) (c := (bd Try.f50)) (by kernel_rfl) (by kernel_rfl) ?_
 have n8 : Try.f50.ntmps = 8 := by kernel_rfl
 have d0 : (opAt oac50 0).dst = some 2 := by kernel_rfl
 have d1 : (opAt obc50 0).dst = some 3 := by kernel_rfl
 have d2 : (opAt obc50 1).dst = some 4 := by kernel_rfl
 rw [atc50, n8]
 refine wp_seq (wp_region ?_)
 have r0 : List.range oac50.size = [0] := by kernel_rfl
 rw [r0]
 refine wpOps_val (o := opAt oac50 0) (v := .slice none 0 0) (w' := w) (by kernel_rfl) (by kernel_rfl) (by kernel_rfl) ?_
 refine wp_seq (wp_seq (wp_region ?_))
 have r1 : List.range obc50.size = [0, 1] := by kernel_rfl
 rw [r1]
 refine wpOps_val (o := opAt obc50 0) (v := .slice A (List.length (α := Int) y) cap) (w' := w) (by kernel_rfl) (by kernel_rfl) (by kernel_rfl) ?_
 cases A with
 | none =>
  obtain ⟨rfl, rfl⟩ := hA rfl
  refine wpOps_val (o := opAt obc50 1) (v := .bool true) (w' := w) (by kernel_rfl) (by kernel_rfl) (by kernel_rfl) ?_
  rw [d0, d1, d2]
  refine wp_cond_true rfl ?_
  refine wp_mono (rest_callsR (cx cE0_ok) (fn := Try.f50) (S := Sc50) (c := Code.at' [1, 0, 1, 0] (bd Try.f50)) (ann := .none) (y := []) (w := w) (fp := ⟨anc, hb, []⟩) (β := β) (by kernel_rfl) (by kernel_rfl) (by kernel_rfl) (annOk_of_cuts (fun x hx => absurd hx (by show x ∉ ([] : List (List Nat × LEnt)); simp))) rfl (exac50 []) ?_) ?_
  ·rw [n8]
   refine R.act rfl rfl (by decide) (fun t av ht => ?_)
   have := R.env t av ht
   cases t with
   | zero => exact this
   | succ t => cases ht
  ·intro e a w' h
   cases e <;> first | exact h | exact h.elim
 | some a' =>
  refine wpOps_val (o := opAt obc50 1) (v := .bool false) (w' := w) (by kernel_rfl) (by kernel_rfl) (by kernel_rfl) ?_
  rw [d0, d1, d2]
  refine wp_cond_false rfl (wp_skip ?_)
  have ex := exbc50 y
  rw [if_pos (by simpa using hok)] at ex
  have e1 : List.replicate 0 (0 : Int) ++ y = y := rfl
  rw [e1] at ex
  refine wp_mono (rest_callsL (cx cE0_ok) (fn := Try.f50) (S := Sc50) (c := Code.at' [1, 1] (bd Try.f50)) (ann := .none) (y := y) (w := w) (fp := ⟨anc, hb, []⟩) (β := β) (by kernel_rfl) (by kernel_rfl) (by kernel_rfl) (annOk_of_cuts (fun x hx => absurd hx (by show x ∉ ([] : List (List Nat × LEnt)); simp))) rfl ex ?_) ?_
  ·rw [n8]
   refine R.act rfl (by simp [Act.put]) (by decide) (fun t av ht => ?_)
   have := R.env t av ht
   cases t with
   | zero =>
    generalize hq : (Value.slice (some a') (List.length (α := Int) y) cap) = q at this ⊢
    simpa [Act.put] using this
   | succ t => cases ht
  ·intro e a w' h
   exact h
noncomputable def Ec50 : List (Nat × Ent) := (50, funEntL Sc50 true Fc50) :: Ec99
theorem Ec50_ok : EntsOk Try.prog (ofL Ec50) := cons_ok (fn := Try.f50) (c := (bd Try.f50)) (by kernel_rfl) callsc50 Ec99_ok
abbrev Sc68 : FL := ⟨⟨[(0, .ptr 1000000 0 1)], [.reg 1000000 (.cells [.fz (.int .u8)]), .env 1 (.c (.int .i64))], [(1000000, .env 0 0)]⟩, 2, [(.ret, ⟨[], [.env 0 (.dat .item), .reg 1000000 (.cells [.fz (.int .u8)])], []⟩), (.panic 125 0, ⟨[], [], []⟩)], [.cell 4 58], true⟩
noncomputable def cc68 (G : Sc68.inT -> Option Sc68.outT) (hG : CallsL Try.prog 68 Sc68 G) : Ctx Try.prog := ⟨ctab, ofL ((68, funEntL Sc68 true G) :: Ec50), ctabOk, .cons (fun_okL (fn := Try.f68) (c := (bd Try.f68)) (by kernel_rfl) (by kernel_rfl) (by kernel_rfl) (by kernel_rfl) hG) Ec50_ok, cdep, cord⟩
abbrev lc68_0 : Lay := ⟨[(4, .ptr 4 0 3), (5, .ptr 5 0 3), (7, .ptr 33 0 1)], [.env 1 (.c (.int .i64)), .reg 4 (.cells [.int .u8, .nils, .nils]), .reg 5 (.cells [.int .u8, .nils, .full 600322]), .reg 600322 (.rowd 58 .item), .reg 33 (.cells [.fz (.int .u8)]), .reg 1000000 (.cells [.fz (.int .u8)])], [(4, .env 4 0), (5, .env 5 0), (33, .env 7 0), (600322, .reg 5 2)]⟩
abbrev oc68_0 : List (AExit × Lay) := [(.panic 125 0, ⟨[], [], []⟩), (.exit 0, ⟨[(4, .ptr 4 0 3), (5, .ptr 5 0 3)], [.reg 4 (.cells [.int .u8, .nils, .nils]), .reg 5 (.cells [.int .u8, .nils, .full 600322]), .reg 600322 (.rowd 58 .item), .reg 1000000 (.cells [.fz (.int .u8)])], [(4, .env 4 0), (5, .env 5 0), (600322, .reg 5 2)]⟩)]
noncomputable def stepc68_0 (G : (List Int) × Int -> Option ((Tree × (List Int)) ⊕ (Int × (Unit)))) : Int × (Int × Unit × Unit) × (Int × Unit × Unit) × List Tree × (List Int) × (List Int) -> Option ((Int × (Int × Unit × Unit) × (Int × Unit × Unit) × List Tree × (List Int) × (List Int)) ⊕ ((Int × (Unit)) ⊕ ((Int × Unit × Unit) × (Int × Unit × Unit) × List Tree × (List Int))))
 | (t1, r4, r5, r600322, r33, r1000000) =>
 if (decide ((r33.length : Int) > 0)) = true then
 (G (r33, (IntKind.i64.wrap (t1 + 1)))).bind fun
 | (.inl (y14, y15)) =>
 if okBytes (r600322.length + ([(Tree.node y14.tag y14.body y14.kids)] : List Tree).length) 56 then
 let f16 : List Tree := (r600322 ++ ([(Tree.node y14.tag y14.body y14.kids)] : List Tree))
 some (.inl (t1, (r4.1, (), ()), (r5.1, (), ()), f16, y15, r1000000))
 else none
 | (.inr (e17, _)) =>
 some (.inr (.inl (e17, ())))
 else
 some (.inr (.inr ((r4.1, (), ()), (r5.1, (), ()), r600322, r1000000)))
noncomputable def annc68_0 (G : (List Int) × Int -> Option ((Tree × (List Int)) ⊕ (Int × (Unit)))) : Ann := .none
noncomputable def Bc68 (G : (List Int) × Int -> Option ((Tree × (List Int)) ⊕ (Int × (Unit)))) : (List Int) × Int -> Option ((Tree × (List Int)) ⊕ (Int × (Unit)))
 | (io, a1) =>
 if (decide (a1 > 16)) = true then
 (Fc69 125).bind fun (e1, _) =>
 some (.inr (e1, ()))
 else
 (Fc96 io).bind fun
 | (.inl (e2, _)) =>
 some (.inr (e2, ()))
 | (.inr (y3, y4)) =>
 if ((bitsAnd .u8 y3 31) == 31) = true then
 (Fc69 123).bind fun (e5, _) =>
 some (.inr (e5, ()))
 else
 (Fc98 y4).bind fun
 | (.inl (e6, _)) =>
 some (.inr (e6, ()))
 | (.inr (y7, y8)) =>
 (Fc97 (y8, y7)).bind fun
 | (.inl (e9, _)) =>
 some (.inr (e9, ()))
 | (.inr (y10, y11)) =>
 (Fc99 y3).bind fun y12 =>
 if (!y12) = true then
 (Fc50 y10).bind fun y13 =>
 some (.inl ((Tree.node y3 y13 ([] : List Tree)), y11))
 else
 (loopO (stepc68_0 G) (a1, (0, (), ()), (y3, (), ()), ([] : List Tree), y10, y11)).bind fun
 | (.inl (e18, _)) =>
 some (.inr (e18, ()))
 | (.inr (z19, z20, z21, z22)) =>
 some (.inl ((Tree.node z20.1 ([] : List Int) z21), z22))
noncomputable def annc68 (G : (List Int) × Int -> Option ((Tree × (List Int)) ⊕ (Int × (Unit)))) : Ann := (.seq .none (.seq .none (.seq .none (.seq .none (.seq .none (.seq .none (.seq (.seq .none (.seq (.cut (cutEnt lc68_0 oc68_0 (loopO (stepc68_0 G)))) .none)) .none)))))))
theorem okc68_0 (G : Sc68.inT -> Option Sc68.outT) (hG : CallsL Try.prog 68 Sc68 G) : LOk Try.prog 50 (cutEnt lc68_0 oc68_0 (loopO (stepc68_0 G))) (Code.at' [1, 1, 1, 1, 1, 1, 0, 1, 0] (bd Try.f68)) := by
 have e : Code.at' [1, 1, 1, 1, 1, 1, 0, 1, 0] (bd Try.f68) = .loop (Code.at' [1, 1, 1, 1, 1, 1, 0, 1, 0, 0] (bd Try.f68)) := by kernel_rfl
 rw [e]
 refine loop_ok (ann := (annc68_0 G)) (cc68 G hG) 50 rfl rfl (annOk_of_cuts nc) (by rintro ⟨t1, r4, r5, r600322, r33, r1000000⟩; kernel_rfl)
theorem bcallsc68 (G : Sc68.inT -> Option Sc68.outT) (hG : CallsL Try.prog 68 Sc68 G) : CallsL Try.prog 68 Sc68 (Bc68 G) := by
 refine fcalls (fn := Try.f68) (c := (bd Try.f68)) (ann := (annc68 G)) (cc68 G hG) (by kernel_rfl) (annOk_of_cuts ?_) (by rintro ⟨io, a1⟩; kernel_rfl)
 exact cut1 (by kernel_rfl) (okc68_0 G hG)
noncomputable def FRc68 : Nat -> (List Int) × Int -> Option ((Tree × (List Int)) ⊕ (Int × (Unit)))
 | 0 => fun _ => none
 | k + 1 => Bc68 (FRc68 k)
theorem rcallsc68 : ∀ k, CallsL Try.prog 68 Sc68 (FRc68 k)
 | 0 => fun _ _ _ _ _ _ _ _ h => by cases h
 | k + 1 => bcallsc68 (FRc68 k) (rcallsc68 k)
noncomputable def Fc68 (x : (List Int) × Int) : Option ((Tree × (List Int)) ⊕ (Int × (Unit))) := FRc68 (20) x
theorem callsc68 : CallsL Try.prog 68 Sc68 Fc68 := fun us x y w fp β h1 h2 h3 h4 => rcallsc68 _ us x y w fp β h1 h2 h3 h4
noncomputable def Ec68 : List (Nat × Ent) := (68, (funEntL Sc68 true Fc68)) :: Ec50
theorem Ec68_ok : EntsOk Try.prog (ofL Ec68) := cons_ok (fn := Try.f68) (c := (bd Try.f68)) (by kernel_rfl) callsc68 Ec50_ok
noncomputable def oac67 : Array Oper := opsOf (Code.at' [0, 0] (bd Try.f67))
noncomputable def obc67 : Array Oper := opsOf (Code.at' [1, 0] (bd Try.f67))
theorem atc67 : (bd Try.f67) = .seq (.seq (.region 0 oac67 false) (.cond (.tmp 7) .ret .skip)) (.seq (.region 1 obc67 false) (Code.at' [1, 1] (bd Try.f67))) := by kernel_rfl
abbrev Sc67 : FL := ⟨⟨[(1, .ptr 1000000 0 1)], [.reg 1000000 (.cells [.int .i64])], [(1000000, .env 1 0)]⟩, 2, [(.ret, ⟨[], [.reg 1000000 (.cells [.int .i64])], []⟩)], [], false⟩
noncomputable def stc67 (n : Int) (x : Sc67.inT) : St := { env := upd (upd (Sc67.inp.enc x).env 11 (some (.agg [.int .i64 n]))) 12 (some (.c (.bool true))), heap := (Sc67.inp.enc x).heap }
noncomputable def Fc67 (n : Int) (x : Sc67.inT) : Option Sc67.outT := some n
theorem exc67 (n : Int) : ∀ x, execOps ctab (ofL cE0) 20 obc67 ((List.range' 5 3).map (opAt obc67)) (stc67 n x) [] (fun st' _ => exec ctab (ofL cE0) 20 (Code.at' [1, 1] (bd Try.f67)) .none (finL ctab Sc67) st') (fun _ _ _ _ _ => none) = Fc67 n x := by
 intro x
 kernel_rfl
theorem nilc67 (v : Value) (w : World) : Calls Try.prog 67 #[.nilIface, v] w fun e w' => e = .returned (.tuple #[]) ∧ w' = w := by
 refine calls_of_wp (fn := Try.f67) (c := (bd Try.f67)) (by kernel_rfl) (by kernel_rfl) ?_
 have n20 : Try.f67.ntmps = 20 := by kernel_rfl
 have d0 : (opAt oac67 0).dst = some 6 := by kernel_rfl
 have d1 : (opAt oac67 1).dst = some 7 := by kernel_rfl
 rw [atc67, n20]
 refine wp_seq (wp_seq (wp_region ?_))
 have r0 : List.range oac67.size = [0, 1] := by kernel_rfl
 rw [r0]
 refine wpOps_val (o := opAt oac67 0) (v := .nilIface) (w' := w) (by kernel_rfl) (by kernel_rfl) (by kernel_rfl) ?_
 refine wpOps_val (o := opAt oac67 1) (v := .bool true) (w' := w) (by kernel_rfl) (by kernel_rfl) (by kernel_rfl) ?_
 rw [d0, d1]
 refine wp_cond_true (by kernel_rfl) (wp_ret ?_)
 exact ⟨rfl, .tuple #[], by kernel_rfl, rfl, rfl⟩
theorem numc67 (n : Int) (pv : Value) (x : Sc67.inT) (y : Sc67.outT) (w : World) (fp : FP) (β : Nat -> Value) (hF : Fc67 n x = some y) (hdfs : fp.dfs = []) (R : Rel Try.prog w fp 2 β (Sc67.inp.enc x) { tmps := #[.iface 125 (.agg #[.int .i64 n]), pv], defers := [] } w) :
  Calls Try.prog 67 #[.iface 125 (.agg #[.int .i64 n]), pv] w (EndL Try.prog Sc67 fp w y) := by
 refine calls_of_wp (fn := Try.f67) (c := (bd Try.f67)) (by kernel_rfl) (by kernel_rfl) ?_
 have n20 : Try.f67.ntmps = 20 := by kernel_rfl
 obtain ⟨anc, hb, dfs⟩ := fp
 have hdfs : dfs = [] := hdfs
 subst hdfs
 have d0 : (opAt oac67 0).dst = some 6 := by kernel_rfl
 have d1 : (opAt oac67 1).dst = some 7 := by kernel_rfl
 have e0 : (opAt obc67 0).dst = some 9 := by kernel_rfl
 have e1 : (opAt obc67 1).dst = some 10 := by kernel_rfl
 have e2 : (opAt obc67 2).dst = some 8 := by kernel_rfl
 have e3 : (opAt obc67 3).dst = some 11 := by kernel_rfl
 have e4 : (opAt obc67 4).dst = some 12 := by kernel_rfl
 rw [atc67, n20]
 refine wp_seq (wp_seq (wp_region ?_))
 have r0 : List.range oac67.size = [0, 1] := by kernel_rfl
 rw [r0]
 refine wpOps_val (o := opAt oac67 0) (v := .iface 125 (.agg #[.int .i64 n])) (w' := w) (by kernel_rfl) (by kernel_rfl) (by kernel_rfl) ?_
 refine wpOps_val (o := opAt oac67 1) (v := .bool false) (w' := w) (by kernel_rfl) (by kernel_rfl) (by kernel_rfl) ?_
 rw [d0, d1]
 refine wp_cond_false (by kernel_rfl) (wp_skip ?_)
 refine wp_seq (wp_region ?_)
 have r1 : List.range obc67.size = 0 :: 1 :: 2 :: 3 :: 4 :: (List.range' 5 3 ++ []) := by kernel_rfl
 rw [r1]
 refine wpOps_val (o := opAt obc67 0) (v := .iface 125 (.agg #[.int .i64 n])) (w' := w) (by kernel_rfl) (by kernel_rfl) (by kernel_rfl) ?_
 refine wpOps_val (o := opAt obc67 1) (v := .tuple #[.agg #[.int .i64 n], .bool true]) (w' := w) (by kernel_rfl) (by kernel_rfl) (by kernel_rfl) ?_
 refine wpOps_val (o := opAt obc67 2) (v := .tuple #[.agg #[.int .i64 n], .bool true]) (w' := w) (by kernel_rfl) (by kernel_rfl) (by kernel_rfl) ?_
 refine wpOps_val (o := opAt obc67 3) (v := .agg #[.int .i64 n]) (w' := w) (by kernel_rfl) (by kernel_rfl) (by kernel_rfl) ?_
 refine wpOps_val (o := opAt obc67 4) (v := .bool true) (w' := w) (by kernel_rfl) (by kernel_rfl) (by kernel_rfl) ?_
 rw [e0, e1, e2, e3, e4]
 have e := exc67 n x
 rw [hF] at e
 have hall := opAt_all (ops := obc67) (i := 5) (k := 3) (by kernel_rfl)
 refine ops_sound (cx cE0_ok) (i := 5) (ops := (List.range' 5 3).map (opAt obc67)) (w0 := w) (fp := ⟨anc, hb, []⟩) e hall ⟨β, ?_⟩ ?_ ?_
 ·refine R.act rfl (by simp [Act.put]) (by decide) (fun t av ht => ?_)
  by_cases h12 : t = 12
  ·subst h12
   have ht : some (AV.c (.bool true)) = some av := ht
   cases ht
   exact avBool (by kernel_rfl)
  ·by_cases h11 : t = 11
   ·subst h11
    have ht : some (AV.agg [.int .i64 n]) = some av := ht
    cases ht
    exact avNum (by kernel_rfl)
   ·have ht : upd (upd (Sc67.inp.enc x).env 11 (some (.agg [.int .i64 n]))) 12 (some (.c (.bool true))) t = some av := ht
    rw [upd_ne _ _ h12, upd_ne _ _ h11] at ht
    have h1 := R.env t av ht
    match t with
    | 0 => cases ht
    | 1 => exact avEq h1 (by kernel_rfl)
    | t + 2 => cases ht
 ·rintro st' _ a w' h1 ⟨β', R'⟩
  exact wpOps_end (rest_callsL (cx cE0_ok) (fn := Try.f67) (S := Sc67) (c := Code.at' [1, 1] (bd Try.f67)) (ann := .none) (y := y) (w := w) (w1 := w') (st := st') (a := a) (β := β') (fp := ⟨anc, hb, []⟩) (by kernel_rfl) (by kernel_rfl) (by kernel_rfl) noCuts rfl h1 R')
 ·intro t m st' rest _ a w' h1
  cases h1
noncomputable def entc67 : Ent := caughtEnt 125 Sc67 Fc67
theorem entc67_ok : EntOk Try.prog 67 entc67 := caught_ok (fn := Try.f67) (c := (bd Try.f67)) (by kernel_rfl) (by kernel_rfl) (by kernel_rfl) (by kernel_rfl) numc67 nilc67
noncomputable def Ec67 : List (Nat × Ent) := [(67, entc67)]
theorem Ec67_ok : EntsOk Try.prog (ofL Ec67) := .cons entc67_ok (.nil _)
noncomputable def oac66 : Array Oper := opsOf (Code.at' [0] (bd Try.f66))
abbrev Sc66 : FL := ⟨⟨[(0, .ptr 1000000 0 1), (1, .ptr 1000001 0 3)], [.reg 1000000 (.cells [.int .i64]), .reg 1000001 (.cells [.int .u8, .fz (.int .u8), .fz .item])], [(1000000, .env 0 0), (1000001, .env 1 0)]⟩, 2, [(.ret, ⟨[], [.reg 1000000 (.cells [.int .i64]), .reg 1000001 (.cells [.int .u8, .fz (.int .u8), .fz .item])], []⟩)], [], true⟩
noncomputable def FRc66 : Int × Int × List Int × List Tree -> Option (Int × Int × List Int × List Tree) := fun (e, t, b, k) => if (e != 0) = true then some (e, 0, [], []) else some (e, t, b, k)
noncomputable def FPc66 (n : Int) : Int × Int × List Int × List Tree -> Option (Int × Int × List Int × List Tree) := fun (e, t, b, k) => if (n != 0) = true then some (n, 0, [], []) else some (n, t, b, k)
theorem eqRc66 : ∀ x, cloF ctab (ofL Ec67) 7 Sc66 oac66 2 (opAt oac66 1) (Code.at' [1] (bd Try.f66)) .none .nilIface x = FRc66 x := by
 rintro ⟨e, i⟩
 kernel_rfl
theorem eqPc66 (n : Int) : ∀ x, cloF ctab (ofL Ec67) 7 Sc66 oac66 2 (opAt oac66 1) (Code.at' [1] (bd Try.f66)) .none (.iface 125 (.agg #[.int .i64 n])) x = FPc66 n x := by
 rintro ⟨e, i⟩
 kernel_rfl
theorem cloc66 {u u' : FrameMode} {v : Value} (hu : Recovers u u' v) {F : Sc66.inT -> Option Sc66.outT} (h : ∀ x, cloF ctab (ofL Ec67) 7 Sc66 oac66 2 (opAt oac66 1) (Code.at' [1] (bd Try.f66)) .none v x = F x) : CallsDL Try.prog 66 Sc66 u u' F :=
 clo_callsDL (cx Ec67_ok) (fn := Try.f66) (id := 0) (ops := oac66) (rest := Code.at' [1] (bd Try.f66)) (ann := .none) (t0 := 2) (v := v) (o0 := opAt oac66 0) (o1 := opAt oac66 1) (by kernel_rfl) (by kernel_rfl) (by kernel_rfl) (by kernel_rfl) (by kernel_rfl) (by kernel_rfl) (by kernel_rfl) (by kernel_rfl) (by kernel_rfl) (fun a w => by kernel_rfl) (by kernel_rfl) (by kernel_rfl) (by kernel_rfl)
  noCuts hu h
theorem okc66 : CloOk Try.prog 66 Sc66 125 FRc66 FPc66 := ⟨cloc66 (.inl ⟨rfl, rfl, rfl⟩) eqRc66, fun n => cloc66 (.inr ⟨rfl, rfl⟩) (eqPc66 n)⟩
noncomputable def oac80 : Array Oper := opsOf (Code.at' [0] (bd Try.f80))
abbrev Sc80 : FL := ⟨⟨[(0, .ptr 1000000 0 1), (1, .ptr 1000001 0 1)], [.reg 1000000 (.cells [.int .i64]), .reg 1000001 (.cells [.fz (.int .u8)])], [(1000000, .env 0 0), (1000001, .env 1 0)]⟩, 2, [(.ret, ⟨[], [.reg 1000000 (.cells [.int .i64]), .reg 1000001 (.cells [.fz (.int .u8)])], []⟩)], [], true⟩
noncomputable def FRc80 : Int × List Int -> Option (Int × List Int) := fun (e, b) => if (e != 0) = true then some (e, []) else some (e, b)
noncomputable def FPc80 (n : Int) : Int × List Int -> Option (Int × List Int) := fun (e, b) => if (n != 0) = true then some (n, []) else some (n, b)
theorem eqRc80 : ∀ x, cloF ctab (ofL Ec67) 6 Sc80 oac80 2 (opAt oac80 1) (Code.at' [1] (bd Try.f80)) .none .nilIface x = FRc80 x := by
 rintro ⟨e, i⟩
 kernel_rfl
theorem eqPc80 (n : Int) : ∀ x, cloF ctab (ofL Ec67) 6 Sc80 oac80 2 (opAt oac80 1) (Code.at' [1] (bd Try.f80)) .none (.iface 125 (.agg #[.int .i64 n])) x = FPc80 n x := by
 rintro ⟨e, i⟩
 kernel_rfl
theorem cloc80 {u u' : FrameMode} {v : Value} (hu : Recovers u u' v) {F : Sc80.inT -> Option Sc80.outT} (h : ∀ x, cloF ctab (ofL Ec67) 6 Sc80 oac80 2 (opAt oac80 1) (Code.at' [1] (bd Try.f80)) .none v x = F x) : CallsDL Try.prog 80 Sc80 u u' F :=
 clo_callsDL (cx Ec67_ok) (fn := Try.f80) (id := 0) (ops := oac80) (rest := Code.at' [1] (bd Try.f80)) (ann := .none) (t0 := 2) (v := v) (o0 := opAt oac80 0) (o1 := opAt oac80 1) (by kernel_rfl) (by kernel_rfl) (by kernel_rfl) (by kernel_rfl) (by kernel_rfl) (by kernel_rfl) (by kernel_rfl) (by kernel_rfl) (by kernel_rfl) (fun a w => by kernel_rfl) (by kernel_rfl) (by kernel_rfl) (by kernel_rfl)
  noCuts hu h
theorem okc80 : CloOk Try.prog 80 Sc80 125 FRc80 FPc80 := ⟨cloc80 (.inl ⟨rfl, rfl, rfl⟩) eqRc80, fun n => cloc80 (.inr ⟨rfl, rfl⟩) (eqPc80 n)⟩
abbrev Sc41 : FL := ⟨⟨[], [.env 0 (.c (.fz (.int .u8)))], []⟩, 1, [(.ret, ⟨[], [.env 0 (.dat .item), .env 1 (.c (.int .i64))], []⟩)], [.cell 2 58, .cell 3 27], true⟩
noncomputable def oac41 : Array Oper := opsOf (Code.at' [1, 0] (bd Try.f41))
abbrev SMc41 : FL := ⟨⟨[(2, .ptr 1000001 0 3), (3, .ptr 1000000 0 1)], [.env 0 (.c (.fz (.int .u8))), .reg 1000000 (.cells [.int .i64]), .reg 1000001 (.cells [.int .u8, .fz (.int .u8), .fz .item])], [(1000000, .env 3 0), (1000001, .env 2 0)]⟩, 4, [(.ret, ⟨[], [.env 0 (.dat .item), .env 1 (.c (.int .i64))], []⟩)], [.cell 2 58, .cell 3 27], true⟩
noncomputable def FMc41 : List Int × Int × (Int × List Int × List Tree) -> Option (Tree × Int) := fun (b, e, i) =>
  if (decide ((b.length : Int) > 65536)) = true then some (Tree.node 0 [] [], 121)
  else (Fc68 (b, 1)).bind fun
   | .inr (n, _) => (FPc66 n (e, i)).bind fun (e', t, bb, k) => some (Tree.node t bb k, e')
   | .inl (it, rest) =>
    if (decide ((rest.length : Int) > 0)) = true then
     (Fc69 126).bind fun (n, _) => (FPc66 n (e, it.tag, it.body, it.kids)).bind fun (e', t, bb, k) => some (Tree.node t bb k, e')
    else some (Tree.node it.tag it.body it.kids, 0)
noncomputable def Fc41 : List Int -> Option (Tree × Int) := fun (b : List Int) => (FMc41 (b, 0, (0, [], []))).bind fun (i, e) => some (Tree.node i.tag i.body i.kids, e)
theorem eqMc41 : ∀ x, exec ctab (ofL Ec68) 23 (Code.at' [1, 1] (bd Try.f41)) .none (finD ctab SMc41 [3, 2] (SMc41.inp.enc x) (funEntL Sc66 false FRc66) 125 (fun n => funEntL Sc66 false (FPc66 n))) (SMc41.inp.enc x) = FMc41 x := by
 rintro ⟨b, e, i⟩
 kernel_rfl
theorem eqc41 : ∀ x, deferF ctab (ofL Ec68) 23 (Code.at' [0] (bd Try.f41)) .none Sc41 SMc41 [0, 2, 3] 5 FMc41 x = Fc41 x := by
 intro b
 kernel_rfl
theorem callsc41 : CallsL Try.prog 41 Sc41 Fc41 :=
 defer_callsL (cx Ec68_ok) (fn := Try.f41) (fnc := Try.f66) (A := Code.at' [0] (bd Try.f41)) (rest := Code.at' [1, 1] (bd Try.f41)) (id := 1) (ops := oac41) (cc := (bd Try.f66)) (o0 := opAt oac41 0) (o1 := opAt oac41 1) (tc := 5) (pt := 125) (cs := [3, 2]) (kn := [0, 2, 3]) (SM := SMc41) (SC := Sc66) (annA := .none) (ann := .none) (FR := FRc66) (FPn := FPc66) (FM := FMc41)
  (by kernel_rfl) (by kernel_rfl) (by kernel_rfl) (by kernel_rfl) (by kernel_rfl) (by kernel_rfl) (by kernel_rfl) (by kernel_rfl) (by kernel_rfl) (by kernel_rfl)
  (fun a w => by kernel_rfl) (fun a w vs h => defer_run (o := opAt oac41 1) (ats := #[]) (by kernel_rfl) h)
  (by kernel_rfl) (by kernel_rfl) (by kernel_rfl) (by kernel_rfl) okc66 (by kernel_rfl) (by kernel_rfl) (by kernel_rfl) (by kernel_rfl) (by kernel_rfl) (by kernel_rfl) (by kernel_rfl)
  noCuts noCuts eqMc41 eqc41
noncomputable def Ec41 : List (Nat × Ent) := (41, funEntL Sc41 true Fc41) :: Ec68
theorem Ec41_ok : EntsOk Try.prog (ofL Ec41) := cons_ok (fn := Try.f41) (c := (bd Try.f41)) (by kernel_rfl) callsc41 Ec68_ok
abbrev Sc44 : FL := ⟨⟨[], [.env 0 (.c (.int .i64))], []⟩, 1, [(.panic 75 0, ⟨[], [], []⟩)], [], false⟩
noncomputable def Fc44 : Int -> Option (Int × Unit) := fun x => some (x, ())
noncomputable def opsc44 : Array Oper := opsOf (bd Try.f44)
theorem callsc44 : CallsL Try.prog 44 Sc44 Fc44 := by
 intro us x y w fp β hlen hdfs hF R
 match us, hlen with
 | [v], _ =>
 have hv : v = .int .i64 x := by
  have := R.env 0 _ rfl
  simp only [AVRel, CVRel] at this
  exact this
 subst hv
 cases hF
 refine calls_of_wp (fn := Try.f44) (c := (bd Try.f44)) (by kernel_rfl) (by kernel_rfl) ?_
 have hb : (bd Try.f44) = .region 0 opsc44 false := by kernel_rfl
 rw [hb]
 refine wp_region ?_
 have hs : List.range opsc44.size = [0, 1, 2, 3] := by kernel_rfl
 rw [hs]
 refine wpOps_val (o := opAt opsc44 0) (v := .int .i64 x) (w' := w) (by kernel_rfl) (by kernel_rfl) (by kernel_rfl) ?_
 refine wpOps_val (o := opAt opsc44 1) (v := .agg #[.int .i64 x]) (w' := w) (by kernel_rfl) (by kernel_rfl) (by kernel_rfl) ?_
 refine wpOps_val (o := opAt opsc44 2) (v := .iface 75 (.agg #[.int .i64 x])) (w' := w) (by kernel_rfl) (by kernel_rfl) (by kernel_rfl) ?_
 refine wpOps_halt (o := opAt opsc44 3) (v := .iface 75 (.agg #[.int .i64 x])) (w' := w) (by kernel_rfl) (by kernel_rfl) (by kernel_rfl) ?_
 have hfp : fp = ⟨fp.anc, fp.hb, []⟩ := by cases fp; simp only at hdfs; subst hdfs; rfl
 have R2 : Rel Try.prog w fp 0 β { env := fun _ => none, heap := (Sc44.inp.enc x).heap } { tmps := #[], defers := [] } w := by
  rw [hfp]
  exact (hfp ▸ R).act rfl rfl (Nat.zero_le _) (fun t av ht => by cases ht)
 exact ⟨rfl, β, [], R2, rfl, fun h => absurd rfl (h 75 x)⟩
noncomputable def Ec44 : List (Nat × Ent) := (44, funEntL Sc44 true Fc44) :: Ec41
theorem Ec44_ok : EntsOk Try.prog (ofL Ec44) := cons_ok (fn := Try.f44) (c := (bd Try.f44)) (by kernel_rfl) callsc44 Ec41_ok
abbrev Sc71 : FL := ⟨⟨[], [.env 0 (.c (.bool))], []⟩, 1, [(.panic 75 0, ⟨[], [], []⟩), (.ret, ⟨[], [], []⟩)], [], false⟩
noncomputable def Fc71 : Bool -> Option ((Int × (Unit)) ⊕ (Unit))
 | a0 =>
 if (!a0) = true then
 (Fc44 131).bind fun (e1, _) =>
 some (.inl (e1, ()))
 else
 some (.inr ())
theorem callsc71 : CallsL Try.prog 71 Sc71 Fc71 := by
 refine fcalls (fn := Try.f71) (c := (bd Try.f71)) (ann := .none) (cx Ec44_ok) (by kernel_rfl) (annOk_of_cuts nc) (by intro x; kernel_rfl)
noncomputable def Ec71 : List (Nat × Ent) := (71, (funEntL Sc71 true Fc71)) :: Ec44
theorem Ec71_ok : EntsOk Try.prog (ofL Ec71) := cons_ok (fn := Try.f71) (c := (bd Try.f71)) (by kernel_rfl) callsc71 Ec44_ok
abbrev Sc70 : FL := ⟨⟨[], [.env 0 (.dat .item), .env 1 (.c (.int .u8)), .env 2 (.c (.int .i64))], []⟩, 3, [(.panic 75 0, ⟨[], [], []⟩), (.ret, ⟨[], [.env 0 (.c (.fz .item))], []⟩)], [.tmp 6], true⟩
noncomputable def Fc70 : Tree × Int × Int -> Option ((Int × (Unit)) ⊕ ((List Tree)))
 | (a0, a1, a2) =>
 if (a0.tag == a1) = true then
 (Fc71 ((a0.kids.length : Int) == a2)).bind fun
 | (.inl (e1, _)) =>
 some (.inl (e1, ()))
 | (.inr _) =>
 some (.inr a0.kids)
 else
 (Fc71 false).bind fun
 | (.inl (e2, _)) =>
 some (.inl (e2, ()))
 | (.inr _) =>
 some (.inr a0.kids)
theorem callsc70 : CallsL Try.prog 70 Sc70 Fc70 := by
 refine fcalls (fn := Try.f70) (c := (bd Try.f70)) (ann := .none) (cx Ec71_ok) (by kernel_rfl) (annOk_of_cuts nc) (by rintro ⟨a0, a1, a2⟩; kernel_rfl)
noncomputable def Ec70 : List (Nat × Ent) := (70, (funEntL Sc70 true Fc70)) :: Ec71
theorem Ec70_ok : EntsOk Try.prog (ofL Ec70) := cons_ok (fn := Try.f70) (c := (bd Try.f70)) (by kernel_rfl) callsc70 Ec71_ok
abbrev Sc88 : FL := ⟨⟨[], [.env 0 (.c (.fzp .item)), .env 1 (.c (.int .u8))], []⟩, 2, [(.ret, ⟨[], [.env 0 (.c (.int .i64))], []⟩)], [.tmp 4], false⟩
noncomputable def Fc88 : Tree × Int -> Option ((Int))
 | (a0, a1) =>
 if (a0.tag != a1) = true then
 some 123
 else
 if (decide ((a0.kids.length : Int) > 0)) = false then
 if ((a0.body.length : Int) == 0) = true then
 some 127
 else
 some 0
 else
 some 127
theorem callsc88 : CallsL Try.prog 88 Sc88 Fc88 := by
 refine fcalls (fn := Try.f88) (c := (bd Try.f88)) (ann := .none) (cx Ec70_ok) (by kernel_rfl) (annOk_of_cuts nc) (by rintro ⟨a0, a1⟩; kernel_rfl)
noncomputable def Ec88 : List (Nat × Ent) := (88, (funEntL Sc88 true Fc88)) :: Ec70
theorem Ec88_ok : EntsOk Try.prog (ofL Ec88) := cons_ok (fn := Try.f88) (c := (bd Try.f88)) (by kernel_rfl) callsc88 Ec70_ok
abbrev Sc52 : FL := ⟨⟨[], [.env 0 (.dat .item)], []⟩, 1, [(.ret, ⟨[], [.env 0 (.c (.int .u64)), .env 1 (.c (.int .i64))], []⟩)], [.tmp 2, .tmp 3], false⟩
abbrev lc52_0 : Lay := ⟨[], [.env 6 (.c (.int .u64)), .env 52 (.c (.fz (.int .u8))), .env 53 (.c (.int .i64)), .env 54 (.c (.int .i64))], []⟩
abbrev oc52_0 : List (AExit × Lay) := [(.exit 0, ⟨[], [.env 6 (.c (.int .u64))], []⟩)]
noncomputable def stepc52_0 : Int × (List Int) × Int × Int -> Option ((Int × (List Int) × Int × Int) ⊕ ((Int)))
 | (t6, t52, t53, t54) =>
 if (decide (t54 < t53)) = true then
 if (0 : Int) ≤ t54 ∧ t54 < (t52.length : Int) then
 let x2 : Int := (bitsOr .u64 (shlI .u64 t6 8) (IntKind.u64.wrap (t52.getD t54.toNat 0)))
 some (.inl (x2, t52, t53, (IntKind.i64.wrap (t54 + 1))))
 else none
 else
 some (.inr t6)
noncomputable def Fc52 : Tree -> Option ((Int × Int))
 | a0 =>
 (Fc88 ((Tree.node a0.tag a0.body a0.kids), 2)).bind fun y1 =>
 if (y1 != 0) = true then
 some (0, y1)
 else
 if (0 : Int) ≤ (0 : Int) ∧ (0 : Int) < (a0.body.length : Int) then
 if (decide ((a0.body.getD 0 0) ≥ 128)) = false then
 if (0 : Int) ≤ (0 : Int) ∧ (0 : Int) < (a0.body.length : Int) then
 if ((a0.body.getD 0 0) == 0) = true then
 if (decide ((a0.body.length : Int) > 1)) = true then
 if (0 : Int) ≤ (1 : Int) ∧ (1 : Int) < (a0.body.length : Int) then
 if (decide ((a0.body.getD 1 0) < 128)) = false then
 if (decide ((a0.body.length : Int) > 9)) = false then
 if ((a0.body.length : Int) == 9) = true then
 if (0 : Int) ≤ (0 : Int) ∧ (0 : Int) < (a0.body.length : Int) then
 if ((a0.body.getD 0 0) != 0) = true then
 some (0, 127)
 else
 (loopO stepc52_0 (0, a0.body, (a0.body.length : Int), 0)).bind fun z3 =>
 some (z3, 0)
 else none
 else
 (loopO stepc52_0 (0, a0.body, (a0.body.length : Int), 0)).bind fun z4 =>
 some (z4, 0)
 else
 some (0, 127)
 else
 some (0, 127)
 else none
 else
 if (decide ((a0.body.length : Int) > 9)) = false then
 if ((a0.body.length : Int) == 9) = true then
 if (0 : Int) ≤ (0 : Int) ∧ (0 : Int) < (a0.body.length : Int) then
 if ((a0.body.getD 0 0) != 0) = true then
 some (0, 127)
 else
 (loopO stepc52_0 (0, a0.body, (a0.body.length : Int), 0)).bind fun z5 =>
 some (z5, 0)
 else none
 else
 (loopO stepc52_0 (0, a0.body, (a0.body.length : Int), 0)).bind fun z6 =>
 some (z6, 0)
 else
 some (0, 127)
 else
 if (decide ((a0.body.length : Int) > 9)) = false then
 if ((a0.body.length : Int) == 9) = true then
 if (0 : Int) ≤ (0 : Int) ∧ (0 : Int) < (a0.body.length : Int) then
 if ((a0.body.getD 0 0) != 0) = true then
 some (0, 127)
 else
 (loopO stepc52_0 (0, a0.body, (a0.body.length : Int), 0)).bind fun z7 =>
 some (z7, 0)
 else none
 else
 (loopO stepc52_0 (0, a0.body, (a0.body.length : Int), 0)).bind fun z8 =>
 some (z8, 0)
 else
 some (0, 127)
 else none
 else
 some (0, 127)
 else none
noncomputable def annc52 : Ann := (.seq .none (.seq .none (.seq .none (.seq .none (.seq .none (.seq (.seq .none (.seq (.cut (cutEnt lc52_0 oc52_0 (loopO (stepc52_0)))) .none)) .none))))))
theorem okc52_0 : LOk Try.prog 65 (cutEnt lc52_0 oc52_0 (loopO stepc52_0)) (Code.at' [1, 1, 1, 1, 1, 0, 1, 0] (bd Try.f52)) := by
 have e : Code.at' [1, 1, 1, 1, 1, 0, 1, 0] (bd Try.f52) = .loop (Code.at' [1, 1, 1, 1, 1, 0, 1, 0, 0] (bd Try.f52)) := by kernel_rfl
 rw [e]
 refine loop_ok (ann := .none) (cx Ec88_ok) 65 rfl rfl (annOk_of_cuts nc) (by rintro ⟨t6, t52, t53, t54⟩; kernel_rfl)
theorem callsc52 : CallsL Try.prog 52 Sc52 Fc52 := by
 refine fcalls (fn := Try.f52) (c := (bd Try.f52)) (ann := annc52) (cx Ec88_ok) (by kernel_rfl) (annOk_of_cuts ?_) (by intro x; kernel_rfl)
 exact cut1 (by kernel_rfl) okc52_0
noncomputable def Ec52 : List (Nat × Ent) := (52, (funEntL Sc52 true Fc52)) :: Ec88
theorem Ec52_ok : EntsOk Try.prog (ofL Ec52) := cons_ok (fn := Try.f52) (c := (bd Try.f52)) (by kernel_rfl) callsc52 Ec88_ok
abbrev Sc72 : FL := ⟨⟨[], [.env 0 (.c (.int .u64)), .env 1 (.c (.int .i64))], []⟩, 2, [(.panic 75 0, ⟨[], [], []⟩), (.ret, ⟨[], [.env 0 (.c (.int .u64))], []⟩)], [.tmp 4], false⟩
noncomputable def Fc72 : Int × Int -> Option ((Int × (Unit)) ⊕ (Int))
 | (a0, a1) =>
 (Fc71 (a1 == 0)).bind fun
 | (.inl (e1, _)) =>
 some (.inl (e1, ()))
 | (.inr _) =>
 some (.inr a0)
theorem callsc72 : CallsL Try.prog 72 Sc72 Fc72 := by
 refine fcalls (fn := Try.f72) (c := (bd Try.f72)) (ann := .none) (cx Ec52_ok) (by kernel_rfl) (annOk_of_cuts nc) (by rintro ⟨a0, a1⟩; kernel_rfl)
noncomputable def Ec72 : List (Nat × Ent) := (72, (funEntL Sc72 true Fc72)) :: Ec52
theorem Ec72_ok : EntsOk Try.prog (ofL Ec72) := cons_ok (fn := Try.f72) (c := (bd Try.f72)) (by kernel_rfl) callsc72 Ec52_ok
abbrev Sc107 : FL := ⟨⟨[], [.reg 1000000 (.row 5 .u8), .env 0 (.c (.sl 1000000))], [(1000000, .env 0 0)]⟩, 1, [(.ret, ⟨[], [.reg 1000000 (.row 5 .u8)], []⟩)], [], false⟩
abbrev lc107_0 : Lay := ⟨[], [.env 0 (.c (.sl 1000000)), .env 2 (.c (.int .i64)), .env 3 (.c (.int .i64)), .reg 1000000 (.row 5 .u8)], []⟩
abbrev oc107_0 : List (AExit × Lay) := [(.exit 0, ⟨[], [.reg 1000000 (.row 5 .u8)], []⟩)]
noncomputable def stepc107_0 : (Nat × Nat) × Int × Int × List Int -> Option (((Nat × Nat) × Int × Int × List Int) ⊕ ((List Int)))
 | (t0, t2, t3, r1000000) =>
 if (decide (t2 < t3)) = true then
 if (0 : Int) ≤ t3 ∧ t3 < ((t0.2 : Nat) : Int) then
 if (0 : Int) ≤ t2 ∧ t2 < ((t0.2 : Nat) : Int) then
 if (0 : Int) ≤ t2 ∧ t2 < ((t0.2 : Nat) : Int) then
 let f1 : List Int := (r1000000.set (t0.1 + t2.toNat) (r1000000.getD (t0.1 + t3.toNat) 0))
 if (0 : Int) ≤ t3 ∧ t3 < ((t0.2 : Nat) : Int) then
 let f2 : List Int := (f1.set (t0.1 + t3.toNat) (r1000000.getD (t0.1 + t2.toNat) 0))
 some (.inl ((t0.1, t0.2), (IntKind.i64.wrap (t2 + 1)), (IntKind.i64.wrap (t3 - 1)), f2))
 else none
 else none
 else none
 else none
 else
 some (.inr r1000000)
noncomputable def Fc107 : List Int × (Nat × Nat) -> Option ((List Int))
 | (ra0, a0) =>
 (loopO stepc107_0 ((a0.1, a0.2), 0, (IntKind.i64.wrap (((a0.2 : Nat) : Int) - 1)), ra0)).bind fun z3 =>
 some z3
noncomputable def annc107 : Ann := (.seq .none (.seq (.cut (cutEnt lc107_0 oc107_0 (loopO (stepc107_0)))) .none))
theorem okc107_0 : LOk Try.prog 28 (cutEnt lc107_0 oc107_0 (loopO stepc107_0)) (Code.at' [1, 0] (bd Try.f107)) := by
 have e : Code.at' [1, 0] (bd Try.f107) = .loop (Code.at' [1, 0, 0] (bd Try.f107)) := by kernel_rfl
 rw [e]
 refine loop_ok (ann := .none) (cx Ec72_ok) 28 rfl rfl (annOk_of_cuts nc) (by rintro ⟨t0, t2, t3, r1000000⟩; kernel_rfl)
theorem callsc107 : CallsL Try.prog 107 Sc107 Fc107 := by
 refine fcalls (fn := Try.f107) (c := (bd Try.f107)) (ann := annc107) (cx Ec72_ok) (by kernel_rfl) (annOk_of_cuts ?_) (by rintro ⟨ra0, a0⟩; kernel_rfl)
 exact cut1 (by kernel_rfl) okc107_0
noncomputable def Ec107 : List (Nat × Ent) := (107, (funEntL Sc107 true Fc107)) :: Ec72
theorem Ec107_ok : EntsOk Try.prog (ofL Ec107) := cons_ok (fn := Try.f107) (c := (bd Try.f107)) (by kernel_rfl) callsc107 Ec72_ok
abbrev Sc108 : FL := ⟨⟨[], [.env 0 (.c (.fz (.int .u64)))], []⟩, 1, [(.ret, ⟨[], [.env 0 (.dat .item), .env 1 (.c (.int .i64))], []⟩)], [.cell 2 58, .tmp 3], true⟩
abbrev lc108_1 : Lay := ⟨[(2, .ptr 2 0 3), (4, .full 72)], [.env 0 (.c (.fz (.int .u64))), .env 6 (.c (.int .u64)), .env 7 (.c (.int .i64)), .env 47 (.c (.fz (.int .u64))), .env 48 (.c (.int .i64)), .env 49 (.c (.int .i64)), .reg 2 (.cells [.int .u8, .nils, .nils]), .reg 72 (.row 5 .u8)], [(2, .env 2 0), (72, .env 4 0)]⟩
abbrev oc108_1 : List (AExit × Lay) := [(.exit 2, ⟨[(2, .ptr 2 0 3), (4, .full 72)], [.env 0 (.c (.fz (.int .u64))), .env 7 (.c (.int .i64)), .env 47 (.c (.fz (.int .u64))), .env 48 (.c (.int .i64)), .env 49 (.c (.int .i64)), .reg 2 (.cells [.int .u8, .nils, .nils]), .reg 72 (.row 5 .u8)], [(2, .env 2 0), (72, .env 4 0)]⟩)]
noncomputable def stepc108_1 : (List Int) × Int × Int × (List Int) × Int × Int × (Int × Unit × Unit) × List Int -> Option (((List Int) × Int × Int × (List Int) × Int × Int × (Int × Unit × Unit) × List Int) ⊕ (((List Int) × Int × (List Int) × Int × Int × (Int × Unit × Unit) × List Int)))
 | (t0, t6, t7, t47, t48, t49, r2, r72) =>
 if (decide (t6 > 0)) = true then
 let f4 : List Int := ((List.replicate 1 (0 : Int)).set 0 (bitsOr .u8 (IntKind.u8.wrap t6) 128))
 if okBytes (r72.length + f4.length) 1 then
 some (.inl (t0, (shrI .u64 t6 7), t7, t47, t48, t49, (r2.1, (), ()), (r72 ++ f4)))
 else none
 else
 some (.inr (t0, t7, t47, t48, t49, (r2.1, (), ()), r72))
abbrev lc108_0 : Lay := ⟨[(2, .ptr 2 0 3), (4, .full 4)], [.env 0 (.c (.fz (.int .u64))), .env 47 (.c (.fz (.int .u64))), .env 48 (.c (.int .i64)), .env 49 (.c (.int .i64)), .reg 2 (.cells [.int .u8, .nils, .nils]), .reg 4 (.row 5 .u8)], [(2, .env 2 0), (4, .env 4 0)]⟩
abbrev oc108_0 : List (AExit × Lay) := [(.ret, ⟨[(2, .ptr 2 0 3)], [.env 3 (.c (.int .i64)), .reg 2 (.cells [.int .u8, .nils, .nils])], [(2, .env 2 0)]⟩), (.exit 0, ⟨[(2, .ptr 2 0 3), (4, .full 4)], [.reg 2 (.cells [.int .u8, .nils, .nils]), .reg 4 (.row 5 .u8)], [(2, .env 2 0), (4, .env 4 0)]⟩)]
noncomputable def stepc108_0 : (List Int) × (List Int) × Int × Int × (Int × Unit × Unit) × List Int -> Option (((List Int) × (List Int) × Int × Int × (Int × Unit × Unit) × List Int) ⊕ ((Int × (Int × Unit × Unit)) ⊕ ((Int × Unit × Unit) × List Int)))
 | (t0, t47, t48, t49, r2, r4) =>
 if (decide (t49 < t48)) = true then
 if (0 : Int) ≤ t49 ∧ t49 < (t47.length : Int) then
 if (t49 == 0) = true then
 if (0 : Int) ≤ (0 : Int) ∧ (0 : Int) < (t0.length : Int) then
 let x2 : Int := (IntKind.u64.wrap ((t47.getD t49.toNat 0) + (IntKind.u64.wrap (40 * (t0.getD 0 0)))))
 if (decide (x2 > 4294967295)) = true then
 some (.inr (.inl (127, (0, (), ()))))
 else
 let f3 : List Int := ((List.replicate 1 (0 : Int)).set 0 (IntKind.u8.wrap (bitsAnd .u64 x2 127)))
 if okBytes (r4.length + f3.length) 1 then
 (loopO stepc108_1 (t0, (shrI .u64 x2 7), (r4.length : Int), t47, t48, t49, (r2.1, (), ()), (r4 ++ f3))).bind fun (z5, z6, z7, z8, z9, z10, z11) =>
 if (0 : Int) ≤ z6 ∧ z6 ≤ (z11.length : Int) then
 (Fc107 (z11, (z6.toNat, (z11.length - z6.toNat)))).bind fun y12 =>
 some (.inl (z5, z7, z8, (IntKind.i64.wrap (z9 + 1)), (z10.1, (), ()), y12))
 else none
 else none
 else none
 else
 if (decide ((t47.getD t49.toNat 0) > 4294967295)) = true then
 some (.inr (.inl (127, (0, (), ()))))
 else
 let f13 : List Int := ((List.replicate 1 (0 : Int)).set 0 (IntKind.u8.wrap (bitsAnd .u64 (t47.getD t49.toNat 0) 127)))
 if okBytes (r4.length + f13.length) 1 then
 (loopO stepc108_1 (t0, (shrI .u64 (t47.getD t49.toNat 0) 7), (r4.length : Int), t47, t48, t49, (r2.1, (), ()), (r4 ++ f13))).bind fun (z14, z15, z16, z17, z18, z19, z20) =>
 if (0 : Int) ≤ z15 ∧ z15 ≤ (z20.length : Int) then
 (Fc107 (z20, (z15.toNat, (z20.length - z15.toNat)))).bind fun y21 =>
 some (.inl (z14, z16, z17, (IntKind.i64.wrap (z18 + 1)), (z19.1, (), ()), y21))
 else none
 else none
 else none
 else
 some (.inr (.inr ((r2.1, (), ()), r4)))
noncomputable def annc108_0 : Ann := (.seq .none (.seq .none (.seq (.seq (.seq .none (.seq .none (.seq .none (.seq .none (.seq .none (.seq (.seq .none (.seq (.cut (cutEnt lc108_1 oc108_1 (loopO (stepc108_1)))) .none)) .none)))))) .none) .none)))
noncomputable def Fc108 : (List Int) -> Option ((Tree × Int))
 | a0 =>
 if (decide ((a0.length : Int) < 2)) = false then
 if (decide ((a0.length : Int) > 20)) = false then
 if (0 : Int) ≤ (0 : Int) ∧ (0 : Int) < (a0.length : Int) then
 if (decide ((a0.getD 0 0) > 2)) = false then
 if (0 : Int) ≤ (0 : Int) ∧ (0 : Int) < (a0.length : Int) then
 if (decide ((a0.getD 0 0) < 2)) = true then
 if (0 : Int) ≤ (1 : Int) ∧ (1 : Int) < (a0.length : Int) then
 if (decide ((a0.getD 1 0) ≥ 40)) = false then
 if (0 : Int) ≤ (1 : Int) ∧ (1 : Int) < (a0.length : Int) then
 if (0 : Int) ≤ (0 : Int) ∧ (0 : Int) < (a0.length : Int) then
 let x1 : Int := (IntKind.u64.wrap (4294967295 - (IntKind.u64.wrap (40 * (a0.getD 0 0)))))
 if (decide ((a0.getD 1 0) > x1)) = true then
 some ((Tree.node 0 ([] : List Int) ([] : List Tree)), 127)
 else
 if (0 : Int) ≤ (1 : Int) ∧ (1 : Int) ≤ (a0.length : Int) then
 (loopO stepc108_0 (a0, (a0.drop 1), ((a0.drop 1).length : Int), 0, (0, (), ()), ([] : List Int))).bind fun
 | (.inl (z22, z23)) =>
 some ((Tree.node z23.1 ([] : List Int) ([] : List Tree)), z22)
 | (.inr (z24, z25)) =>
 some ((Tree.node 6 z25 ([] : List Tree)), 0)
 else none
 else none
 else none
 else
 some ((Tree.node 0 ([] : List Int) ([] : List Tree)), 127)
 else none
 else
 if (0 : Int) ≤ (1 : Int) ∧ (1 : Int) < (a0.length : Int) then
 if (0 : Int) ≤ (0 : Int) ∧ (0 : Int) < (a0.length : Int) then
 let x26 : Int := (IntKind.u64.wrap (4294967295 - (IntKind.u64.wrap (40 * (a0.getD 0 0)))))
 if (decide ((a0.getD 1 0) > x26)) = true then
 some ((Tree.node 0 ([] : List Int) ([] : List Tree)), 127)
 else
 if (0 : Int) ≤ (1 : Int) ∧ (1 : Int) ≤ (a0.length : Int) then
 (loopO stepc108_0 (a0, (a0.drop 1), ((a0.drop 1).length : Int), 0, (0, (), ()), ([] : List Int))).bind fun
 | (.inl (z27, z28)) =>
 some ((Tree.node z28.1 ([] : List Int) ([] : List Tree)), z27)
 | (.inr (z29, z30)) =>
 some ((Tree.node 6 z30 ([] : List Tree)), 0)
 else none
 else none
 else none
 else none
 else
 some ((Tree.node 0 ([] : List Int) ([] : List Tree)), 127)
 else none
 else
 some ((Tree.node 0 ([] : List Int) ([] : List Tree)), 127)
 else
 some ((Tree.node 0 ([] : List Int) ([] : List Tree)), 127)
noncomputable def annc108 : Ann := (.seq .none (.seq .none (.seq .none (.seq (.seq .none (.seq (.cut (cutEnt lc108_0 oc108_0 (loopO (stepc108_0)))) .none)) .none))))
theorem okc108_1 : LOk Try.prog 92 (cutEnt lc108_1 oc108_1 (loopO stepc108_1)) (Code.at' [1, 1, 1, 0, 1, 0, 0, 1, 1, 0, 0, 1, 1, 1, 1, 1, 0, 1, 0] (bd Try.f108)) := by
 have e : Code.at' [1, 1, 1, 0, 1, 0, 0, 1, 1, 0, 0, 1, 1, 1, 1, 1, 0, 1, 0] (bd Try.f108) = .loop (Code.at' [1, 1, 1, 0, 1, 0, 0, 1, 1, 0, 0, 1, 1, 1, 1, 1, 0, 1, 0, 0] (bd Try.f108)) := by kernel_rfl
 rw [e]
 refine loop_ok (ann := .none) (cx Ec107_ok) 92 rfl rfl (annOk_of_cuts nc) (by rintro ⟨t0, t6, t7, t47, t48, t49, r2, r72⟩; kernel_rfl)
theorem okc108_0 : LOk Try.prog 92 (cutEnt lc108_0 oc108_0 (loopO stepc108_0)) (Code.at' [1, 1, 1, 0, 1, 0] (bd Try.f108)) := by
 have e : Code.at' [1, 1, 1, 0, 1, 0] (bd Try.f108) = .loop (Code.at' [1, 1, 1, 0, 1, 0, 0] (bd Try.f108)) := by kernel_rfl
 rw [e]
 refine loop_ok (ann := annc108_0) (cx Ec107_ok) 92 rfl rfl (annOk_of_cuts ?_) (by rintro ⟨t0, t47, t48, t49, r2, r4⟩; kernel_rfl)
 have hc : Ann.cuts annc108_0 = [([1, 1, 0, 0, 1, 1, 1, 1, 1, 0, 1, 0], (cutEnt lc108_1 oc108_1 (loopO (stepc108_1))))] := by kernel_rfl
 rw [hc]
 intro x hx
 simp only [List.mem_cons, List.not_mem_nil, or_false] at hx
 rcases hx with rfl
 ·have e : Code.at' [1, 1, 0, 0, 1, 1, 1, 1, 1, 0, 1, 0] (Code.at' [1, 1, 1, 0, 1, 0, 0] (bd Try.f108)) = Code.at' [1, 1, 1, 0, 1, 0, 0, 1, 1, 0, 0, 1, 1, 1, 1, 1, 0, 1, 0] (bd Try.f108) := by kernel_rfl
  rw [e]; exact okc108_1
theorem callsc108 : CallsL Try.prog 108 Sc108 Fc108 := by
 refine fcalls (fn := Try.f108) (c := (bd Try.f108)) (ann := annc108) (cx Ec107_ok) (by kernel_rfl) (annOk_of_cuts ?_) (by intro x; kernel_rfl)
 exact cut1 (by kernel_rfl) okc108_0
noncomputable def Ec108 : List (Nat × Ent) := (108, (funEntL Sc108 true Fc108)) :: Ec107
theorem Ec108_ok : EntsOk Try.prog (ofL Ec108) := cons_ok (fn := Try.f108) (c := (bd Try.f108)) (by kernel_rfl) callsc108 Ec107_ok
abbrev Sc85 : FL := ⟨⟨[], [.env 0 (.c (.fz (.int .u64)))], []⟩, 1, [(.ret, ⟨[], [.env 0 (.dat .item)], []⟩)], [.cell 2 58], true⟩
noncomputable def Fc85 : (List Int) -> Option ((Tree))
 | a0 =>
 (Fc108 a0).bind fun (y1, y2) =>
 some (Tree.node y1.tag y1.body y1.kids)
theorem callsc85 : CallsL Try.prog 85 Sc85 Fc85 := by
 refine fcalls (fn := Try.f85) (c := (bd Try.f85)) (ann := .none) (cx Ec108_ok) (by kernel_rfl) (annOk_of_cuts nc) (by intro x; kernel_rfl)
noncomputable def Ec85 : List (Nat × Ent) := (85, (funEntL Sc85 true Fc85)) :: Ec108
theorem Ec85_ok : EntsOk Try.prog (ofL Ec85) := cons_ok (fn := Try.f85) (c := (bd Try.f85)) (by kernel_rfl) callsc85 Ec108_ok
abbrev Sc47 : FL := ⟨⟨[(1, .full 1000001)], [.env 0 (.c (.int .u8)), .reg 1000001 (.rowd 58 .item)], [(1000001, .env 1 0)]⟩, 2, [(.ret, ⟨[], [.env 0 (.agg [.int .u8, .nils, .full 1000001]), .reg 1000001 (.rowd 58 .item)], []⟩)], [.cell 4 58], true⟩
noncomputable def Fc47 : Int × List Tree -> Option (((Int × Unit × Unit) × List Tree))
 | (a0, a1) =>
 some ((a0, (), ()), a1)
theorem callsc47 : CallsL Try.prog 47 Sc47 Fc47 := by
 refine fcalls (fn := Try.f47) (c := (bd Try.f47)) (ann := .none) (cx Ec85_ok) (by kernel_rfl) (annOk_of_cuts nc) (by rintro ⟨a0, a1⟩; kernel_rfl)
noncomputable def Ec47 : List (Nat × Ent) := (47, (funEntL Sc47 true Fc47)) :: Ec85
theorem Ec47_ok : EntsOk Try.prog (ofL Ec47) := cons_ok (fn := Try.f47) (c := (bd Try.f47)) (by kernel_rfl) callsc47 Ec85_ok
abbrev Sc48 : FL := ⟨⟨[], [], []⟩, 0, [(.ret, ⟨[], [.env 0 (.dat .item)], []⟩)], [.cell 0 58], true⟩
noncomputable def Fc48 : Unit -> Option ((Tree))
 | _ =>
 let f1 : List Int := ((((((((((List.replicate 9 (0 : Int)).set 0 1).set 1 3).set 2 6).set 3 1).set 4 4).set 5 1).set 6 4128).set 7 2200).set 8 1)
 (Fc85 f1).bind fun y2 =>
 (Fc47 (48, ([(Tree.node y2.tag y2.body y2.kids)] : List Tree))).bind fun (y3, y4) =>
 some (Tree.node y3.1 ([] : List Int) y4)
theorem callsc48 : CallsL Try.prog 48 Sc48 Fc48 := by
 refine fcalls (fn := Try.f48) (c := (bd Try.f48)) (ann := .none) (cx Ec47_ok) (by kernel_rfl) (annOk_of_cuts nc) (by intro x; kernel_rfl)
noncomputable def Ec48 : List (Nat × Ent) := (48, (funEntL Sc48 true Fc48)) :: Ec47
theorem Ec48_ok : EntsOk Try.prog (ofL Ec48) := cons_ok (fn := Try.f48) (c := (bd Try.f48)) (by kernel_rfl) callsc48 Ec47_ok
abbrev Sc100 : FL := ⟨⟨[], [.env 0 (.c (.fz (.int .u8))), .env 1 (.c (.fz (.int .u8)))], []⟩, 2, [(.ret, ⟨[], [.env 0 (.c (.bool))], []⟩)], [.tmp 4], false⟩
abbrev lc100_0 : Lay := ⟨[], [.env 0 (.c (.fz (.int .u8))), .env 1 (.c (.fz (.int .u8))), .env 12 (.c (.int .i64)), .env 13 (.c (.int .i64))], []⟩
abbrev oc100_0 : List (AExit × Lay) := [(.ret, ⟨[], [.env 4 (.c (.bool))], []⟩), (.exit 0, ⟨[], [], []⟩)]
noncomputable def stepc100_0 : (List Int) × (List Int) × Int × Int -> Option (((List Int) × (List Int) × Int × Int) ⊕ ((Bool) ⊕ (Unit)))
 | (t0, t1, t12, t13) =>
 if (decide (t13 < t12)) = true then
 if (0 : Int) ≤ t13 ∧ t13 < (t0.length : Int) then
 if (0 : Int) ≤ t13 ∧ t13 < (t1.length : Int) then
 if ((t0.getD t13.toNat 0) != (t1.getD t13.toNat 0)) = true then
 some (.inr (.inl false))
 else
 some (.inl (t0, t1, t12, (IntKind.i64.wrap (t13 + 1))))
 else none
 else none
 else
 some (.inr (.inr ()))
noncomputable def Fc100 : (List Int) × (List Int) -> Option ((Bool))
 | (a0, a1) =>
 if ((a0.length : Int) != (a1.length : Int)) = true then
 some false
 else
 (loopO stepc100_0 (a0, a1, (a0.length : Int), 0)).bind fun
 | (.inl z1) =>
 some z1
 | (.inr _) =>
 some true
noncomputable def annc100 : Ann := (.seq .none (.seq .none (.seq (.seq .none (.seq (.cut (cutEnt lc100_0 oc100_0 (loopO (stepc100_0)))) .none)) .none)))
theorem okc100_0 : LOk Try.prog 26 (cutEnt lc100_0 oc100_0 (loopO stepc100_0)) (Code.at' [1, 1, 0, 1, 0] (bd Try.f100)) := by
 have e : Code.at' [1, 1, 0, 1, 0] (bd Try.f100) = .loop (Code.at' [1, 1, 0, 1, 0, 0] (bd Try.f100)) := by kernel_rfl
 rw [e]
 refine loop_ok (ann := .none) (cx Ec48_ok) 26 rfl rfl (annOk_of_cuts nc) (by rintro ⟨t0, t1, t12, t13⟩; kernel_rfl)
theorem callsc100 : CallsL Try.prog 100 Sc100 Fc100 := by
 refine fcalls (fn := Try.f100) (c := (bd Try.f100)) (ann := annc100) (cx Ec48_ok) (by kernel_rfl) (annOk_of_cuts ?_) (by rintro ⟨a0, a1⟩; kernel_rfl)
 exact cut1 (by kernel_rfl) okc100_0
noncomputable def Ec100 : List (Nat × Ent) := (100, (funEntL Sc100 true Fc100)) :: Ec48
theorem Ec100_ok : EntsOk Try.prog (ofL Ec100) := cons_ok (fn := Try.f100) (c := (bd Try.f100)) (by kernel_rfl) callsc100 Ec48_ok
abbrev Sc73 : FL := ⟨⟨[], [.env 0 (.dat .item), .env 1 (.dat .item)], []⟩, 2, [(.ret, ⟨[], [], []⟩), (.panic 75 0, ⟨[], [], []⟩)], [], false⟩
noncomputable def cc73 (G : Sc73.inT -> Option Sc73.outT) (hG : CallsL Try.prog 73 Sc73 G) : Ctx Try.prog := ⟨ctab, ofL ((73, funEntL Sc73 true G) :: Ec100), ctabOk, .cons (fun_okL (fn := Try.f73) (c := (bd Try.f73)) (by kernel_rfl) (by kernel_rfl) (by kernel_rfl) (by kernel_rfl) hG) Ec100_ok, cdep, cord⟩
abbrev lc73_0 : Lay := ⟨[(2, .ptr 2 0 3), (3, .ptr 3 0 3)], [.env 29 (.c (.int .i64)), .env 30 (.c (.int .i64)), .reg 2 (.cells [.int .u8, .fz (.int .u8), .fz .item]), .reg 3 (.cells [.int .u8, .fz (.int .u8), .fz .item])], [(2, .env 2 0), (3, .env 3 0)]⟩
abbrev oc73_0 : List (AExit × Lay) := [(.panic 75 0, ⟨[], [], []⟩), (.exit 0, ⟨[], [], []⟩)]
noncomputable def stepc73_0 (G : Tree × Tree -> Option ((Unit) ⊕ (Int × (Unit)))) : Int × Int × (Int × (List Int) × (List Tree)) × (Int × (List Int) × (List Tree)) -> Option ((Int × Int × (Int × (List Int) × (List Tree)) × (Int × (List Int) × (List Tree))) ⊕ ((Int × (Unit)) ⊕ (Unit)))
 | (t29, t30, r2, r3) =>
 if (decide (t30 < t29)) = true then
 if (0 : Int) ≤ t30 ∧ t30 < (r2.2.2.length : Int) then
 if (0 : Int) ≤ t30 ∧ t30 < (r3.2.2.length : Int) then
 (G ((Tree.node (r2.2.2.getD t30.toNat (DT.dflt .item)).tag (r2.2.2.getD t30.toNat (DT.dflt .item)).body (r2.2.2.getD t30.toNat (DT.dflt .item)).kids), (Tree.node (r3.2.2.getD t30.toNat (DT.dflt .item)).tag (r3.2.2.getD t30.toNat (DT.dflt .item)).body (r3.2.2.getD t30.toNat (DT.dflt .item)).kids))).bind fun
 | (.inl _) =>
 some (.inl (t29, (IntKind.i64.wrap (t30 + 1)), (r2.1, r2.2.1, r2.2.2), (r3.1, r3.2.1, r3.2.2)))
 | (.inr (e3, _)) =>
 some (.inr (.inl (e3, ())))
 else none
 else none
 else
 some (.inr (.inr ()))
noncomputable def annc73_0 (G : Tree × Tree -> Option ((Unit) ⊕ (Int × (Unit)))) : Ann := .none
noncomputable def Bc73 (G : Tree × Tree -> Option ((Unit) ⊕ (Int × (Unit)))) : Tree × Tree -> Option ((Unit) ⊕ (Int × (Unit)))
 | (a0, a1) =>
 if (a0.tag == a1.tag) = true then
 (Fc100 (a0.body, a1.body)).bind fun y1 =>
 if y1 = true then
 (Fc71 ((a0.kids.length : Int) == (a1.kids.length : Int))).bind fun
 | (.inl (e2, _)) =>
 some (.inr (e2, ()))
 | (.inr _) =>
 (loopO (stepc73_0 G) ((a0.kids.length : Int), 0, (a0.tag, a0.body, a0.kids), (a1.tag, a1.body, a1.kids))).bind fun
 | (.inl (e4, _)) =>
 some (.inr (e4, ()))
 | (.inr _) =>
 some (.inl ())
 else
 (Fc71 false).bind fun
 | (.inl (e5, _)) =>
 some (.inr (e5, ()))
 | (.inr _) =>
 (loopO (stepc73_0 G) ((a0.kids.length : Int), 0, (a0.tag, a0.body, a0.kids), (a1.tag, a1.body, a1.kids))).bind fun
 | (.inl (e6, _)) =>
 some (.inr (e6, ()))
 | (.inr _) =>
 some (.inl ())
 else
 (Fc71 false).bind fun
 | (.inl (e7, _)) =>
 some (.inr (e7, ()))
 | (.inr _) =>
 (loopO (stepc73_0 G) ((a0.kids.length : Int), 0, (a0.tag, a0.body, a0.kids), (a1.tag, a1.body, a1.kids))).bind fun
 | (.inl (e8, _)) =>
 some (.inr (e8, ()))
 | (.inr _) =>
 some (.inl ())
noncomputable def annc73 (G : Tree × Tree -> Option ((Unit) ⊕ (Int × (Unit)))) : Ann := (.seq .none (.seq .none (.seq .none (.seq (.cut (cutEnt lc73_0 oc73_0 (loopO (stepc73_0 G)))) .none))))
theorem okc73_0 (G : Sc73.inT -> Option Sc73.outT) (hG : CallsL Try.prog 73 Sc73 G) : LOk Try.prog 45 (cutEnt lc73_0 oc73_0 (loopO (stepc73_0 G))) (Code.at' [1, 1, 1, 0] (bd Try.f73)) := by
 have e : Code.at' [1, 1, 1, 0] (bd Try.f73) = .loop (Code.at' [1, 1, 1, 0, 0] (bd Try.f73)) := by kernel_rfl
 rw [e]
 refine loop_ok (ann := (annc73_0 G)) (cc73 G hG) 45 rfl rfl (annOk_of_cuts nc) (by rintro ⟨t29, t30, r2, r3⟩; kernel_rfl)
theorem bcallsc73 (G : Sc73.inT -> Option Sc73.outT) (hG : CallsL Try.prog 73 Sc73 G) : CallsL Try.prog 73 Sc73 (Bc73 G) := by
 refine fcalls (fn := Try.f73) (c := (bd Try.f73)) (ann := (annc73 G)) (cc73 G hG) (by kernel_rfl) (annOk_of_cuts ?_) (by rintro ⟨a0, a1⟩; kernel_rfl)
 exact cut1 (by kernel_rfl) (okc73_0 G hG)
noncomputable def FRc73 : Nat -> Tree × Tree -> Option ((Unit) ⊕ (Int × (Unit)))
 | 0 => fun _ => none
 | k + 1 => Bc73 (FRc73 k)
theorem rcallsc73 : ∀ k, CallsL Try.prog 73 Sc73 (FRc73 k)
 | 0 => fun _ _ _ _ _ _ _ _ h => by cases h
 | k + 1 => bcallsc73 (FRc73 k) (rcallsc73 k)
noncomputable def Fc73 (x : Tree × Tree) : Option ((Unit) ⊕ (Int × (Unit))) := FRc73 (Tree.rank x.1 + 1) x
theorem callsc73 : CallsL Try.prog 73 Sc73 Fc73 := fun us x y w fp β h1 h2 h3 h4 => rcallsc73 _ us x y w fp β h1 h2 h3 h4
noncomputable def Ec73 : List (Nat × Ent) := (73, (funEntL Sc73 true Fc73)) :: Ec100
theorem Ec73_ok : EntsOk Try.prog (ofL Ec73) := cons_ok (fn := Try.f73) (c := (bd Try.f73)) (by kernel_rfl) callsc73 Ec100_ok
abbrev Sc74 : FL := ⟨⟨[], [.env 0 (.dat .item)], []⟩, 1, [(.panic 75 0, ⟨[], [], []⟩), (.ret, ⟨[], [.env 0 (.c (.str))], []⟩)], [.tmp 2], false⟩
noncomputable def Fc74 : Tree -> Option ((Int × (Unit)) ⊕ (ByteArray))
 | a0 =>
 (Fc70 ((Tree.node a0.tag a0.body a0.kids), 48, 1)).bind fun
 | (.inl (e1, _)) =>
 some (.inl (e1, ()))
 | (.inr y2) =>
 if (0 : Int) ≤ (0 : Int) ∧ (0 : Int) < (y2.length : Int) then
 (Fc70 ((Tree.node (y2.getD 0 (DT.dflt .item)).tag (y2.getD 0 (DT.dflt .item)).body (y2.getD 0 (DT.dflt .item)).kids), 49, 1)).bind fun
 | (.inl (e3, _)) =>
 some (.inl (e3, ()))
 | (.inr y4) =>
 if (0 : Int) ≤ (0 : Int) ∧ (0 : Int) < (y4.length : Int) then
 (Fc70 ((Tree.node (y4.getD 0 (DT.dflt .item)).tag (y4.getD 0 (DT.dflt .item)).body (y4.getD 0 (DT.dflt .item)).kids), 48, 2)).bind fun
 | (.inl (e5, _)) =>
 some (.inl (e5, ()))
 | (.inr y6) =>
 if (0 : Int) ≤ (0 : Int) ∧ (0 : Int) < (y6.length : Int) then
 let f7 : List Int := (((((List.replicate 4 (0 : Int)).set 0 2).set 1 5).set 2 4).set 3 3)
 (Fc85 f7).bind fun y8 =>
 (Fc73 ((Tree.node (y6.getD 0 (DT.dflt .item)).tag (y6.getD 0 (DT.dflt .item)).body (y6.getD 0 (DT.dflt .item)).kids), (Tree.node y8.tag y8.body y8.kids))).bind fun
 | (.inl _) =>
 if (0 : Int) ≤ (1 : Int) ∧ (1 : Int) < (y6.length : Int) then
 (Fc71 ((y6.getD 1 (DT.dflt .item)).tag == 12)).bind fun
 | (.inl (e9, _)) =>
 some (.inl (e9, ()))
 | (.inr _) =>
 if (0 : Int) ≤ (1 : Int) ∧ (1 : Int) < (y6.length : Int) then
 some (.inr (ofBytes (y6.getD 1 (DT.dflt .item)).body))
 else none
 else none
 | (.inr (e10, _)) =>
 some (.inl (e10, ()))
 else none
 else none
 else none
theorem callsc74 : CallsL Try.prog 74 Sc74 Fc74 := by
 refine fcalls (fn := Try.f74) (c := (bd Try.f74)) (ann := .none) (cx Ec73_ok) (by kernel_rfl) (annOk_of_cuts nc) (by intro x; kernel_rfl)
noncomputable def Ec74 : List (Nat × Ent) := (74, (funEntL Sc74 true Fc74)) :: Ec73
theorem Ec74_ok : EntsOk Try.prog (ofL Ec74) := cons_ok (fn := Try.f74) (c := (bd Try.f74)) (by kernel_rfl) callsc74 Ec73_ok
abbrev Sc87 : FL := ⟨⟨[], [.env 0 (.c (.int .u8)), .env 1 (.c (.str))], []⟩, 2, [(.ret, ⟨[], [.env 0 (.dat .item)], []⟩)], [.cell 4 58], true⟩
noncomputable def Fc87 : Int × ByteArray -> Option ((Tree))
 | (a0, a1) =>
 some (Tree.node a0 (toBytes a1) ([] : List Tree))
theorem callsc87 : CallsL Try.prog 87 Sc87 Fc87 := by
 refine fcalls (fn := Try.f87) (c := (bd Try.f87)) (ann := .none) (cx Ec74_ok) (by kernel_rfl) (annOk_of_cuts nc) (by rintro ⟨a0, a1⟩; kernel_rfl)
noncomputable def Ec87 : List (Nat × Ent) := (87, (funEntL Sc87 true Fc87)) :: Ec74
theorem Ec87_ok : EntsOk Try.prog (ofL Ec87) := cons_ok (fn := Try.f87) (c := (bd Try.f87)) (by kernel_rfl) callsc87 Ec74_ok
abbrev Sc75 : FL := ⟨⟨[], [], []⟩, 0, [(.ret, ⟨[], [.env 0 (.dat .item)], []⟩)], [.cell 0 58], true⟩
noncomputable def Fc75 : Unit -> Option ((Tree))
 | _ =>
 (Fc87 (24, cstr1)).bind fun y1 =>
 (Fc87 (24, cstr2)).bind fun y2 =>
 let f3 : List Tree := ([(Tree.node y1.tag y1.body y1.kids), (Tree.node y2.tag y2.body y2.kids)] : List Tree)
 (Fc47 (48, f3)).bind fun (y4, y5) =>
 some (Tree.node y4.1 ([] : List Int) y5)
theorem callsc75 : CallsL Try.prog 75 Sc75 Fc75 := by
 refine fcalls (fn := Try.f75) (c := (bd Try.f75)) (ann := .none) (cx Ec87_ok) (by kernel_rfl) (annOk_of_cuts nc) (by intro x; kernel_rfl)
noncomputable def Ec75 : List (Nat × Ent) := (75, (funEntL Sc75 true Fc75)) :: Ec87
theorem Ec75_ok : EntsOk Try.prog (ofL Ec75) := cons_ok (fn := Try.f75) (c := (bd Try.f75)) (by kernel_rfl) callsc75 Ec87_ok
abbrev Sc53 : FL := ⟨⟨[], [.env 0 (.dat .item)], []⟩, 1, [(.ret, ⟨[(0, .full 3)], [.reg 3 (.row 5 .u8), .env 1 (.c (.int .i64))], [(3, .env 0 0)]⟩)], [.tmp 2, .tmp 3], false⟩
noncomputable def Fc53 : Tree -> Option ((List Int × Int))
 | a0 =>
 (Fc88 ((Tree.node a0.tag a0.body a0.kids), 3)).bind fun y1 =>
 if (y1 != 0) = true then
 some (([] : List Int), y1)
 else
 if (0 : Int) ≤ (0 : Int) ∧ (0 : Int) < (a0.body.length : Int) then
 if ((a0.body.getD 0 0) != 0) = true then
 some (([] : List Int), 127)
 else
 if (0 : Int) ≤ (1 : Int) ∧ (1 : Int) ≤ (a0.body.length : Int) then
 (Fc50 (a0.body.drop 1)).bind fun y2 =>
 some (y2, 0)
 else none
 else none
theorem callsc53 : CallsL Try.prog 53 Sc53 Fc53 := by
 refine fcalls (fn := Try.f53) (c := (bd Try.f53)) (ann := .none) (cx Ec75_ok) (by kernel_rfl) (annOk_of_cuts nc) (by intro x; kernel_rfl)
noncomputable def Ec53 : List (Nat × Ent) := (53, (funEntL Sc53 true Fc53)) :: Ec75
theorem Ec53_ok : EntsOk Try.prog (ofL Ec53) := cons_ok (fn := Try.f53) (c := (bd Try.f53)) (by kernel_rfl) callsc53 Ec75_ok
abbrev Sc76 : FL := ⟨⟨[(0, .full 1000000)], [.reg 1000000 (.row 5 .u8), .env 1 (.c (.int .i64))], [(1000000, .env 0 0)]⟩, 2, [(.panic 75 0, ⟨[], [], []⟩), (.ret, ⟨[(0, .full 1000000)], [.reg 1000000 (.row 5 .u8)], []⟩)], [.tmp 4], true⟩
noncomputable def Fc76 : List Int × Int -> Option ((Int × (Unit)) ⊕ (List Int))
 | (a0, a1) =>
 (Fc71 (a1 == 0)).bind fun
 | (.inl (e1, _)) =>
 some (.inl (e1, ()))
 | (.inr _) =>
 some (.inr a0)
theorem callsc76 : CallsL Try.prog 76 Sc76 Fc76 := by
 refine fcalls (fn := Try.f76) (c := (bd Try.f76)) (ann := .none) (cx Ec53_ok) (by kernel_rfl) (annOk_of_cuts nc) (by rintro ⟨a0, a1⟩; kernel_rfl)
noncomputable def Ec76 : List (Nat × Ent) := (76, (funEntL Sc76 true Fc76)) :: Ec53
theorem Ec76_ok : EntsOk Try.prog (ofL Ec76) := cons_ok (fn := Try.f76) (c := (bd Try.f76)) (by kernel_rfl) callsc76 Ec53_ok
abbrev Sc102 : FL := ⟨⟨[], [.env 0 (.dat .item)], []⟩, 1, [(.ret, ⟨[(0, .full 3)], [.reg 3 (.row 23 .u64), .env 1 (.c (.int .i64))], [(3, .env 0 0)]⟩)], [.tmp 2, .tmp 3], false⟩
abbrev lc102_0 : Lay := ⟨[(5, .full 5)], [.env 6 (.c (.int .u64)), .env 7 (.c (.bool)), .env 16 (.c (.fz (.int .u8))), .env 17 (.c (.int .i64)), .env 18 (.c (.int .i64)), .reg 5 (.row 23 .u64)], [(5, .env 5 0)]⟩
abbrev oc102_0 : List (AExit × Lay) := [(.ret, ⟨[(2, .full 2)], [.env 3 (.c (.int .i64)), .reg 2 (.row 23 .u64)], [(2, .env 2 0)]⟩), (.exit 0, ⟨[(5, .full 5)], [.env 7 (.c (.bool)), .reg 5 (.row 23 .u64)], [(5, .env 5 0)]⟩)]
noncomputable def stepc102_0 : Int × Bool × (List Int) × Int × Int × List Int -> Option ((Int × Bool × (List Int) × Int × Int × List Int) ⊕ ((Int × List Int) ⊕ (Bool × List Int)))
 | (t6, t7, t16, t17, t18, r5) =>
 if (decide (t18 < t17)) = true then
 if (0 : Int) ≤ t18 ∧ t18 < (t16.length : Int) then
 if t7 = true then
 if ((t16.getD t18.toNat 0) == 128) = true then
 some (.inr (.inl (127, ([] : List Int))))
 else
 let x2 : Int := (bitsOr .u64 (shlI .u64 t6 7) (IntKind.u64.wrap (bitsAnd .u8 (t16.getD t18.toNat 0) 127)))
 if (decide (x2 > 4294967295)) = true then
 some (.inr (.inl (127, ([] : List Int))))
 else
 if (!(decide ((t16.getD t18.toNat 0) < 128))) = true then
 some (.inl (x2, (decide ((t16.getD t18.toNat 0) < 128)), t16, t17, (IntKind.i64.wrap (t18 + 1)), r5))
 else
 if ((r5.length : Int) == 0) = true then
 let x3 : Int := (if 2 < (IntKind.u64.wrap (x2.tdiv 40)) then 2 else (IntKind.u64.wrap (x2.tdiv 40)))
 if okBytes (r5.length + ((List.replicate 1 (0 : Int)).set 0 x3).length) 8 then
 let f4 : List Int := ((List.replicate 1 (0 : Int)).set 0 (IntKind.u64.wrap (x2 - (IntKind.u64.wrap (40 * x3)))))
 if okBytes ((r5 ++ ((List.replicate 1 (0 : Int)).set 0 x3)).length + f4.length) 8 then
 some (.inl (0, (decide ((t16.getD t18.toNat 0) < 128)), t16, t17, (IntKind.i64.wrap (t18 + 1)), ((r5 ++ ((List.replicate 1 (0 : Int)).set 0 x3)) ++ f4)))
 else none
 else none
 else
 if okBytes (r5.length + ((List.replicate 1 (0 : Int)).set 0 x2).length) 8 then
 some (.inl (0, (decide ((t16.getD t18.toNat 0) < 128)), t16, t17, (IntKind.i64.wrap (t18 + 1)), (r5 ++ ((List.replicate 1 (0 : Int)).set 0 x2))))
 else none
 else
 let x5 : Int := (bitsOr .u64 (shlI .u64 t6 7) (IntKind.u64.wrap (bitsAnd .u8 (t16.getD t18.toNat 0) 127)))
 if (decide (x5 > 4294967295)) = true then
 some (.inr (.inl (127, ([] : List Int))))
 else
 if (!(decide ((t16.getD t18.toNat 0) < 128))) = true then
 some (.inl (x5, (decide ((t16.getD t18.toNat 0) < 128)), t16, t17, (IntKind.i64.wrap (t18 + 1)), r5))
 else
 if ((r5.length : Int) == 0) = true then
 let x6 : Int := (if 2 < (IntKind.u64.wrap (x5.tdiv 40)) then 2 else (IntKind.u64.wrap (x5.tdiv 40)))
 if okBytes (r5.length + ((List.replicate 1 (0 : Int)).set 0 x6).length) 8 then
 let f7 : List Int := ((List.replicate 1 (0 : Int)).set 0 (IntKind.u64.wrap (x5 - (IntKind.u64.wrap (40 * x6)))))
 if okBytes ((r5 ++ ((List.replicate 1 (0 : Int)).set 0 x6)).length + f7.length) 8 then
 some (.inl (0, (decide ((t16.getD t18.toNat 0) < 128)), t16, t17, (IntKind.i64.wrap (t18 + 1)), ((r5 ++ ((List.replicate 1 (0 : Int)).set 0 x6)) ++ f7)))
 else none
 else none
 else
 if okBytes (r5.length + ((List.replicate 1 (0 : Int)).set 0 x5).length) 8 then
 some (.inl (0, (decide ((t16.getD t18.toNat 0) < 128)), t16, t17, (IntKind.i64.wrap (t18 + 1)), (r5 ++ ((List.replicate 1 (0 : Int)).set 0 x5))))
 else none
 else none
 else
 some (.inr (.inr (t7, r5)))
noncomputable def Fc102 : Tree -> Option ((List Int × Int))
 | a0 =>
 (Fc88 ((Tree.node a0.tag a0.body a0.kids), 6)).bind fun y1 =>
 if (y1 != 0) = true then
 some (([] : List Int), y1)
 else
 (loopO stepc102_0 (0, true, a0.body, (a0.body.length : Int), 0, ([] : List Int))).bind fun
 | (.inl (z8, z9)) =>
 some (z9, z8)
 | (.inr (z10, z11)) =>
 if (!z10) = false then
 if (decide ((z11.length : Int) > 20)) = true then
 some (([] : List Int), 127)
 else
 some (z11, 0)
 else
 some (([] : List Int), 127)
noncomputable def annc102 : Ann := (.seq .none (.seq .none (.seq .none (.seq .none (.seq .none (.seq (.seq .none (.seq (.cut (cutEnt lc102_0 oc102_0 (loopO (stepc102_0)))) .none)) .none))))))
theorem okc102_0 : LOk Try.prog 66 (cutEnt lc102_0 oc102_0 (loopO stepc102_0)) (Code.at' [1, 1, 1, 1, 1, 0, 1, 0] (bd Try.f102)) := by
 have e : Code.at' [1, 1, 1, 1, 1, 0, 1, 0] (bd Try.f102) = .loop (Code.at' [1, 1, 1, 1, 1, 0, 1, 0, 0] (bd Try.f102)) := by kernel_rfl
 rw [e]
 refine loop_ok (ann := .none) (cx Ec76_ok) 66 rfl rfl (annOk_of_cuts nc) (by rintro ⟨t6, t7, t16, t17, t18, r5⟩; kernel_rfl)
theorem callsc102 : CallsL Try.prog 102 Sc102 Fc102 := by
 refine fcalls (fn := Try.f102) (c := (bd Try.f102)) (ann := annc102) (cx Ec76_ok) (by kernel_rfl) (annOk_of_cuts ?_) (by intro x; kernel_rfl)
 exact cut1 (by kernel_rfl) okc102_0
noncomputable def Ec102 : List (Nat × Ent) := (102, (funEntL Sc102 true Fc102)) :: Ec76
theorem Ec102_ok : EntsOk Try.prog (ofL Ec102) := cons_ok (fn := Try.f102) (c := (bd Try.f102)) (by kernel_rfl) callsc102 Ec76_ok
end Go.Abs
