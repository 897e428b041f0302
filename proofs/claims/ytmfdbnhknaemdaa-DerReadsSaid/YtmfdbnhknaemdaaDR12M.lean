import Derived.Test.YtmfdbnhknaemdaaAbsSpoilM
import Derived.Test.YtmfdbnhknaemdaaChecked
import Derived.KernelRfl
set_option linter.unusedVariables false
set_option linter.unusedSimpArgs false
set_option maxRecDepth 100000
namespace Go.Abs
def dtab : Tab := [
  (3, ⟨.int .i64, 1, 8, [.int .i64 0]⟩),
  (5, ⟨.int .u8, 1, 1, [.int .u8 0]⟩),
  (22, ⟨.slice 5, 1, 24, [.val (.slice none 0 0)]⟩),
  (23, ⟨.slice 25, 1, 24, [.val (.slice none 0 0)]⟩),
  (25, ⟨.struct [(5, 0), (22, 1), (23, 2)], 3, 56, [.int .u8 0, .val (.slice none 0 0), .val (.slice none 0 0)]⟩),
  (26, ⟨.int .i64, 1, 8, [.int .i64 0]⟩),
  (62, ⟨.struct [(22, 0)], 1, 24, [.val (.slice none 0 0)]⟩),
  (79, ⟨.struct [(26, 0)], 1, 8, [.int .i64 0]⟩)]
theorem dtabOk : TabOk Go.Proofs.Try.prog dtab := tabChk_ok (by kernel_rfl)
theorem ddep : 4 ≤ (Go.Proofs.Try.prog).depth := by
  have : Nat.ble 4 ((Go.Proofs.Try.prog).depth) = true := by kernel_rfl
  exact Nat.le_of_ble_eq_true this
theorem dord : (Go.Proofs.Try.prog).follows .mixedOrders = true := by kernel_rfl
noncomputable def dE0 : List (Nat × Ent) := []
theorem dE0_ok : EntsOk Go.Proofs.Try.prog (ofL dE0) := .nil _

/-! ### barbican/barbicanref12.none -/
noncomputable def bodyd52 : Code := (Go.Proofs.Try.f52.body).getD .skip
abbrev Sd52 : FL := ⟨⟨[], [.env 0 (.c (.int .u8))], []⟩, 1, [(.ret, ⟨[], [.env 0 (.c (.bool))], []⟩)], [.tmp 2], false⟩
noncomputable def cd52 : Ctx Go.Proofs.Try.prog := ⟨dtab, ofL dE0, dtabOk, dE0_ok, ddep, dord⟩
noncomputable def Fd52 : Int → Option ((Bool))
  | a0 =>
  some ((a0.tmod 32) == 31)

noncomputable def annd52 : Ann := .none
theorem eqd52 : ∀ x : Sd52.inT, exec dtab (ofL dE0) 6 bodyd52 annd52 (finL dtab Sd52) (Sd52.inp.enc x) = Fd52 x := by
  intro x
  kernel_rfl
theorem callsd52 : CallsL Go.Proofs.Try.prog 52 Sd52 Fd52 := by
  refine fun_callsL (fn := Go.Proofs.Try.f52) (c := bodyd52) (ann := annd52) cd52 (by kernel_rfl) (by kernel_rfl) (by kernel_rfl) (by kernel_rfl) (by kernel_rfl) (annOk_of_cuts ?_) eqd52
  intro x hx
  exact absurd hx (by show x ∉ ([] : List (List Nat × LEnt)); simp)

theorem entd52 : EntOk Go.Proofs.Try.prog 52 (funEntL Sd52 true Fd52) := fun_okL (fn := Go.Proofs.Try.f52) (c := bodyd52) (by kernel_rfl) (by kernel_rfl) (by kernel_rfl) (by kernel_rfl) callsd52
noncomputable def Ed52 : List (Nat × Ent) := (52, (funEntL Sd52 true Fd52)) :: dE0
theorem Ed52_ok : EntsOk Go.Proofs.Try.prog (ofL Ed52) := .cons entd52 dE0_ok

/-! ### barbican/barbicanref12.length -/
noncomputable def bodyd53 : Code := (Go.Proofs.Try.f53.body).getD .skip
abbrev Sd53 : FL := ⟨⟨[], [.env 0 (.c (.fz (.int .u8))), .env 1 (.c (.int .i64)), .env 2 (.c (.int .i64))], []⟩, 3, [(.ret, ⟨[], [.env 0 (.c (.int .i64)), .env 1 (.c (.int .i64)), .env 2 (.c (.int .i64))], []⟩)], [.tmp 6, .tmp 7, .tmp 8], false⟩
noncomputable def cd53 : Ctx Go.Proofs.Try.prog := ⟨dtab, ofL Ed52, dtabOk, Ed52_ok, ddep, dord⟩
abbrev ld53_0 : Lay := ⟨[], [.env 0 (.c (.fz (.int .u8))), .env 1 (.c (.int .i64)), .env 10 (.c (.int .i64)), .env 11 (.c (.int .i64)), .env 12 (.c (.int .i64))], []⟩
abbrev od53_0 : List (AExit × Lay) := [(.exit 0, ⟨[], [.env 0 (.c (.fz (.int .u8))), .env 1 (.c (.int .i64)), .env 10 (.c (.int .i64)), .env 11 (.c (.int .i64))], []⟩)]
noncomputable def stepd53_0 : (List Int) × Int × Int × Int × Int → Option (((List Int) × Int × Int × Int × Int) ⊕ (((List Int) × Int × Int × Int)))
  | (t0, t1, t10, t11, t12) =>
  if (decide (t12 ≤ t10)) = true then
   if (0 : Int) ≤ (IntKind.i64.wrap (t1 + t12)) ∧ (IntKind.i64.wrap (t1 + t12)) < (t0.length : Int) then
    let x3 : Int := (IntKind.i64.wrap (t0.getD (IntKind.i64.wrap (t1 + t12)).toNat 0))
    some (.inl (t0, t1, t10, (IntKind.i64.wrap ((IntKind.i64.wrap (256 * t11)) + x3)), (IntKind.i64.wrap (t12 + 1))))
   else none
  else
   some (.inr (t0, t1, t10, t11))

noncomputable def annd53_0 : Ann := .none
noncomputable def Fd53 : (List Int) × Int × Int → Option ((Int × Int × Int))
  | (a0, a1, a2) =>
  if (decide (a1 ≥ a2)) = true then
   some (0, 0, 122)
  else
   if (0 : Int) ≤ a1 ∧ a1 < (a0.length : Int) then
    if (decide ((IntKind.i64.wrap (a0.getD a1.toNat 0)) < 128)) = true then
     some ((IntKind.i64.wrap (a0.getD a1.toNat 0)), (IntKind.i64.wrap (a1 + 1)), 0)
    else
     let x1 : Int := (IntKind.i64.wrap ((IntKind.i64.wrap (a0.getD a1.toNat 0)) - 128))
     if (x1 == 0) = false then
      if (decide (x1 > 3)) = true then
       some (0, 0, 124)
      else
       let x2 : Bool := (decide ((IntKind.i64.wrap ((IntKind.i64.wrap (a2 - a1)) - 1)) < x1))
       if x2 = true then
        some (0, 0, 122)
       else
        (loopO stepd53_0 (a0, a1, x1, 0, 1)).bind fun (z4, z5, z6, z7) =>
         if (0 : Int) ≤ (IntKind.i64.wrap (z5 + 1)) ∧ (IntKind.i64.wrap (z5 + 1)) < (z4.length : Int) then
          if ((z4.getD (IntKind.i64.wrap (z5 + 1)).toNat 0) == 0) = false then
           if (decide (z7 < 128)) = true then
            some (0, 0, 124)
           else
            some (z7, (IntKind.i64.wrap ((IntKind.i64.wrap (z5 + 1)) + z6)), 0)
          else
           some (0, 0, 124)
         else none
     else
      some (0, 0, 124)
   else none

noncomputable def annd53 : Ann := (.seq .none (.seq .none (.seq .none (.seq .none (.seq .none (.seq .none (.seq .none (.seq .none (.seq (.seq .none (.seq (.cut (cutEnt ld53_0 od53_0 (loopO (stepd53_0)))) .none)) .none)))))))))
theorem eqd53_0 : ∀ s : ld53_0.T, exec dtab (ofL Ed52) 70 (Code.at' [1, 1, 1, 1, 1, 1, 1, 1, 0, 1, 0, 0] bodyd53) annd53_0 (fun e st => loopEnd (l := ld53_0) (outs := od53_0) e st) (ld53_0.enc s) = stepd53_0 s := by
  rintro ⟨t0, t1, t10, t11, t12⟩
  kernel_rfl
theorem okd53_0 : LOk Go.Proofs.Try.prog 70 (cutEnt ld53_0 od53_0 (loopO stepd53_0)) (Code.at' [1, 1, 1, 1, 1, 1, 1, 1, 0, 1, 0] bodyd53) := by
  have e : Code.at' [1, 1, 1, 1, 1, 1, 1, 1, 0, 1, 0] bodyd53 = .loop (Code.at' [1, 1, 1, 1, 1, 1, 1, 1, 0, 1, 0, 0] bodyd53) := by kernel_rfl
  rw [e]
  refine loop_ok cd53 70 rfl rfl (annOk_of_cuts ?_) eqd53_0
  intro x hx
  exact absurd hx (by show x ∉ ([] : List (List Nat × LEnt)); simp)

theorem eqd53 : ∀ x : Sd53.inT, exec dtab (ofL Ed52) 70 bodyd53 annd53 (finL dtab Sd53) (Sd53.inp.enc x) = Fd53 x := by
  rintro ⟨a0, a1, a2⟩
  kernel_rfl
theorem callsd53 : CallsL Go.Proofs.Try.prog 53 Sd53 Fd53 := by
  refine fun_callsL (fn := Go.Proofs.Try.f53) (c := bodyd53) (ann := annd53) cd53 (by kernel_rfl) (by kernel_rfl) (by kernel_rfl) (by kernel_rfl) (by kernel_rfl) (annOk_of_cuts ?_) eqd53
  have hc : Ann.cuts annd53 = [([1, 1, 1, 1, 1, 1, 1, 1, 0, 1, 0], (cutEnt ld53_0 od53_0 (loopO (stepd53_0))))] := by kernel_rfl
  rw [hc]
  intro x hx
  simp only [List.mem_cons, List.not_mem_nil, or_false] at hx
  rcases hx with rfl
  · have e : Code.at' [1, 1, 1, 1, 1, 1, 1, 1, 0, 1, 0] bodyd53 = Code.at' [1, 1, 1, 1, 1, 1, 1, 1, 0, 1, 0] bodyd53 := by kernel_rfl
    rw [e]; exact okd53_0

theorem entd53 : EntOk Go.Proofs.Try.prog 53 (funEntL Sd53 true Fd53) := fun_okL (fn := Go.Proofs.Try.f53) (c := bodyd53) (by kernel_rfl) (by kernel_rfl) (by kernel_rfl) (by kernel_rfl) callsd53
noncomputable def Ed53 : List (Nat × Ent) := (53, (funEntL Sd53 true Fd53)) :: Ed52
theorem Ed53_ok : EntsOk Go.Proofs.Try.prog (ofL Ed53) := .cons entd53 Ed52_ok

/-! ### barbican/barbicanref12.Built -/
noncomputable def bodyd54 : Code := (Go.Proofs.Try.f54.body).getD .skip
abbrev Sd54 : FL := ⟨⟨[], [.env 0 (.c (.int .u8))], []⟩, 1, [(.ret, ⟨[], [.env 0 (.c (.bool))], []⟩)], [.tmp 2], false⟩
noncomputable def cd54 : Ctx Go.Proofs.Try.prog := ⟨dtab, ofL Ed53, dtabOk, Ed53_ok, ddep, dord⟩
noncomputable def Fd54 : Int → Option ((Bool))
  | a0 =>
  some (((IntKind.u8.wrap (a0.tdiv 32)).tmod 2) == 1)

noncomputable def annd54 : Ann := .none
theorem eqd54 : ∀ x : Sd54.inT, exec dtab (ofL Ed53) 7 bodyd54 annd54 (finL dtab Sd54) (Sd54.inp.enc x) = Fd54 x := by
  intro x
  kernel_rfl
theorem callsd54 : CallsL Go.Proofs.Try.prog 54 Sd54 Fd54 := by
  refine fun_callsL (fn := Go.Proofs.Try.f54) (c := bodyd54) (ann := annd54) cd54 (by kernel_rfl) (by kernel_rfl) (by kernel_rfl) (by kernel_rfl) (by kernel_rfl) (annOk_of_cuts ?_) eqd54
  intro x hx
  exact absurd hx (by show x ∉ ([] : List (List Nat × LEnt)); simp)

theorem entd54 : EntOk Go.Proofs.Try.prog 54 (funEntL Sd54 true Fd54) := fun_okL (fn := Go.Proofs.Try.f54) (c := bodyd54) (by kernel_rfl) (by kernel_rfl) (by kernel_rfl) (by kernel_rfl) callsd54
noncomputable def Ed54 : List (Nat × Ent) := (54, (funEntL Sd54 true Fd54)) :: Ed53
theorem Ed54_ok : EntsOk Go.Proofs.Try.prog (ofL Ed54) := .cons entd54 Ed53_ok

/-! ### barbican/barbicanref12.read -/
noncomputable def bodyd37 : Code := (Go.Proofs.Try.f37.body).getD .skip
abbrev Sd37 : FL := ⟨⟨[], [.env 0 (.c (.fz (.int .u8))), .env 1 (.c (.int .i64)), .env 2 (.c (.int .i64)), .env 3 (.c (.int .i64))], []⟩, 4, [(.ret, ⟨[], [.env 0 (.dat .item), .env 1 (.c (.int .i64)), .env 2 (.c (.int .i64))], []⟩)], [.cell 8 25, .tmp 9, .tmp 10], true⟩
noncomputable def cd37 (G : Sd37.inT → Option Sd37.outT) (hG : CallsL Go.Proofs.Try.prog 37 Sd37 G) : Ctx Go.Proofs.Try.prog := ⟨dtab, ofL ((37, funEntL Sd37 true G) :: Ed54), dtabOk, .cons (fun_okL (fn := Go.Proofs.Try.f37) (c := bodyd37) (by kernel_rfl) (by kernel_rfl) (by kernel_rfl) (by kernel_rfl) hG) Ed54_ok, ddep, dord⟩
abbrev ld37_0 : Lay := ⟨[(8, .ptr 8 0 3), (11, .ptr 11 0 3)], [.env 0 (.c (.fz (.int .u8))), .env 1 (.c (.int .i64)), .env 3 (.c (.int .i64)), .env 13 (.c (.int .i64)), .env 14 (.c (.int .i64)), .reg 8 (.cells [.int .u8, .nils, .nils]), .reg 11 (.cells [.int .u8, .nils, .full 600706]), .reg 600706 (.rowd 25 .item)], [(8, .env 8 0), (11, .env 11 0), (600706, .reg 11 2)]⟩
abbrev od37_0 : List (AExit × Lay) := [(.ret, ⟨[(8, .ptr 8 0 3)], [.env 9 (.c (.int .i64)), .env 10 (.c (.int .i64)), .reg 8 (.cells [.int .u8, .nils, .nils])], [(8, .env 8 0)]⟩), (.exit 0, ⟨[(8, .ptr 8 0 3), (11, .ptr 11 0 3)], [.env 1 (.c (.int .i64)), .reg 8 (.cells [.int .u8, .nils, .nils]), .reg 11 (.cells [.int .u8, .nils, .full 600706]), .reg 600706 (.rowd 25 .item)], [(8, .env 8 0), (11, .env 11 0), (600706, .reg 11 2)]⟩)]
noncomputable def stepd37_0 (G : (List Int) × Int × Int × Int → Option ((Tree × Int × Int))) : (List Int) × Int × Int × Int × Int × (Int × Unit × Unit) × (Int × Unit × Unit) × List Tree → Option (((List Int) × Int × Int × Int × Int × (Int × Unit × Unit) × (Int × Unit × Unit) × List Tree) ⊕ ((Int × Int × (Int × Unit × Unit)) ⊕ (Int × (Int × Unit × Unit) × (Int × Unit × Unit) × List Tree)))
  | (t0, t1, t3, t13, t14, r8, r11, r600706) =>
  if (decide (t1 < (IntKind.i64.wrap (t14 + t13)))) = true then
   (G (t0, t1, (IntKind.i64.wrap (t14 + t13)), (IntKind.i64.wrap (t3 + 1)))).bind fun (y7, y8, y9) =>
    if (y9 != 0) = true then
     some (.inr (.inl (0, y9, (0, (), ()))))
    else
     if okBytes (r600706.length + ([(Tree.node y7.tag y7.body y7.kids)] : List Tree).length) 56 then
      let f10 : List Tree := (r600706 ++ ([(Tree.node y7.tag y7.body y7.kids)] : List Tree))
      some (.inl (t0, y8, t3, t13, t14, (r8.1, (), ()), (r11.1, (), ()), f10))
     else none
  else
   some (.inr (.inr (t1, (r8.1, (), ()), (r11.1, (), ()), r600706)))

noncomputable def annd37_0 (G : (List Int) × Int × Int × Int → Option ((Tree × Int × Int))) : Ann := .none
noncomputable def Bd37 (G : (List Int) × Int × Int × Int → Option ((Tree × Int × Int))) : (List Int) × Int × Int × Int → Option ((Tree × Int × Int))
  | (a0, a1, a2, a3) =>
  if (decide (a3 > 16)) = true then
   some ((Tree.node 0 ([] : List Int) ([] : List Tree)), 0, 125)
  else
   if (decide (a1 ≥ a2)) = true then
    some ((Tree.node 0 ([] : List Int) ([] : List Tree)), 0, 122)
   else
    if (0 : Int) ≤ a1 ∧ a1 < (a0.length : Int) then
     (Fd52 (a0.getD a1.toNat 0)).bind fun y1 =>
      if y1 = true then
       some ((Tree.node 0 ([] : List Int) ([] : List Tree)), 0, 123)
      else
       (Fd53 (a0, (IntKind.i64.wrap (a1 + 1)), a2)).bind fun (y2, y3, y4) =>
        if (y4 != 0) = true then
         some ((Tree.node 0 ([] : List Int) ([] : List Tree)), 0, y4)
        else
         if (decide (y2 > (IntKind.i64.wrap (a2 - y3)))) = true then
          some ((Tree.node 0 ([] : List Int) ([] : List Tree)), 0, 122)
         else
          (Fd54 (a0.getD a1.toNat 0)).bind fun y5 =>
           if (!y5) = true then
            if (0 : Int) ≤ y3 ∧ y3 ≤ (IntKind.i64.wrap (y3 + y2)) ∧ (IntKind.i64.wrap (y3 + y2)) ≤ (a0.length : Int) then
             if okBytes ((List.replicate 0 (0 : Int)).length + ((a0.drop y3.toNat).take ((IntKind.i64.wrap (y3 + y2)).toNat - y3.toNat)).length) 1 then
              let f6 : List Int := ((List.replicate 0 (0 : Int)) ++ ((a0.drop y3.toNat).take ((IntKind.i64.wrap (y3 + y2)).toNat - y3.toNat)))
              some ((Tree.node (a0.getD a1.toNat 0) f6 ([] : List Tree)), (IntKind.i64.wrap (y3 + y2)), 0)
             else none
            else none
           else
            (loopO (stepd37_0 G) (a0, y3, a3, y2, y3, (0, (), ()), ((a0.getD a1.toNat 0), (), ()), ([] : List Tree))).bind fun
             | (.inl (z11, z12, z13)) =>
              some ((Tree.node z13.1 ([] : List Int) ([] : List Tree)), z11, z12)
             | (.inr (z14, z15, z16, z17)) =>
              some ((Tree.node z16.1 ([] : List Int) z17), z14, 0)
    else none

noncomputable def annd37 (G : (List Int) × Int × Int × Int → Option ((Tree × Int × Int))) : Ann := (.seq .none (.seq .none (.seq .none (.seq .none (.seq .none (.seq .none (.seq .none (.seq .none (.seq .none (.seq .none (.seq .none (.seq .none (.seq (.seq (.cut (cutEnt ld37_0 od37_0 (loopO (stepd37_0 G)))) .none) .none)))))))))))))
theorem eqd37_0 (G : Sd37.inT → Option Sd37.outT) (hG : CallsL Go.Proofs.Try.prog 37 Sd37 G) : ∀ s : ld37_0.T, exec dtab (ofL ((37, funEntL Sd37 true G) :: Ed54)) 105 (Code.at' [1, 1, 1, 1, 1, 1, 1, 1, 1, 1, 1, 1, 0, 0, 0] bodyd37) (annd37_0 G) (fun e st => loopEnd (l := ld37_0) (outs := od37_0) e st) (ld37_0.enc s) = stepd37_0 G s := by
  rintro ⟨t0, t1, t3, t13, t14, r8, r11, r600706⟩
  kernel_rfl
theorem okd37_0 (G : Sd37.inT → Option Sd37.outT) (hG : CallsL Go.Proofs.Try.prog 37 Sd37 G) : LOk Go.Proofs.Try.prog 105 (cutEnt ld37_0 od37_0 (loopO (stepd37_0 G))) (Code.at' [1, 1, 1, 1, 1, 1, 1, 1, 1, 1, 1, 1, 0, 0] bodyd37) := by
  have e : Code.at' [1, 1, 1, 1, 1, 1, 1, 1, 1, 1, 1, 1, 0, 0] bodyd37 = .loop (Code.at' [1, 1, 1, 1, 1, 1, 1, 1, 1, 1, 1, 1, 0, 0, 0] bodyd37) := by kernel_rfl
  rw [e]
  refine loop_ok (cd37 G hG) 105 rfl rfl (annOk_of_cuts ?_) (eqd37_0 G hG)
  intro x hx
  exact absurd hx (by show x ∉ ([] : List (List Nat × LEnt)); simp)

theorem eqd37 (G : Sd37.inT → Option Sd37.outT) (hG : CallsL Go.Proofs.Try.prog 37 Sd37 G) : ∀ x : Sd37.inT, exec dtab (ofL ((37, funEntL Sd37 true G) :: Ed54)) 105 bodyd37 (annd37 G) (finL dtab Sd37) (Sd37.inp.enc x) = Bd37 G x := by
  rintro ⟨a0, a1, a2, a3⟩
  kernel_rfl
theorem bcallsd37 (G : Sd37.inT → Option Sd37.outT) (hG : CallsL Go.Proofs.Try.prog 37 Sd37 G) : CallsL Go.Proofs.Try.prog 37 Sd37 (Bd37 G) := by
  refine fun_callsL (fn := Go.Proofs.Try.f37) (c := bodyd37) (ann := (annd37 G)) (cd37 G hG) (by kernel_rfl) (by kernel_rfl) (by kernel_rfl) (by kernel_rfl) (by kernel_rfl) (annOk_of_cuts ?_) (eqd37 G hG)
  have hc : Ann.cuts (annd37 G) = [([1, 1, 1, 1, 1, 1, 1, 1, 1, 1, 1, 1, 0, 0], (cutEnt ld37_0 od37_0 (loopO (stepd37_0 G))))] := by kernel_rfl
  rw [hc]
  intro x hx
  simp only [List.mem_cons, List.not_mem_nil, or_false] at hx
  rcases hx with rfl
  · have e : Code.at' [1, 1, 1, 1, 1, 1, 1, 1, 1, 1, 1, 1, 0, 0] bodyd37 = Code.at' [1, 1, 1, 1, 1, 1, 1, 1, 1, 1, 1, 1, 0, 0] bodyd37 := by kernel_rfl
    rw [e]; exact okd37_0 G hG

noncomputable def FRd37 : Nat → (List Int) × Int × Int × Int → Option ((Tree × Int × Int))
  | 0 => fun _ => none
  | k + 1 => Bd37 (FRd37 k)
theorem rcallsd37 : ∀ k, CallsL Go.Proofs.Try.prog 37 Sd37 (FRd37 k)
  | 0 => fun _ _ _ _ _ _ _ _ h => by cases h
  | k + 1 => bcallsd37 (FRd37 k) (rcallsd37 k)
noncomputable def Fd37 (x : (List Int) × Int × Int × Int) : Option ((Tree × Int × Int)) := FRd37 (20) x
theorem callsd37 : CallsL Go.Proofs.Try.prog 37 Sd37 Fd37 := fun us x y w fp β h1 h2 h3 h4 => rcallsd37 _ us x y w fp β h1 h2 h3 h4
theorem entd37 : EntOk Go.Proofs.Try.prog 37 (funEntL Sd37 true Fd37) := fun_okL (fn := Go.Proofs.Try.f37) (c := bodyd37) (by kernel_rfl) (by kernel_rfl) (by kernel_rfl) (by kernel_rfl) callsd37
noncomputable def Ed37 : List (Nat × Ent) := (37, (funEntL Sd37 true Fd37)) :: Ed54
theorem Ed37_ok : EntsOk Go.Proofs.Try.prog (ofL Ed37) := .cons entd37 Ed54_ok

/-! ### barbican/barbicanref12.Decode -/
noncomputable def bodyd10 : Code := (Go.Proofs.Try.f10.body).getD .skip
abbrev Sd10 : FL := ⟨⟨[], [.env 0 (.c (.fz (.int .u8)))], []⟩, 1, [(.ret, ⟨[], [.env 0 (.dat .item), .env 1 (.c (.int .i64))], []⟩)], [.cell 2 25, .tmp 3], true⟩
noncomputable def cd10 : Ctx Go.Proofs.Try.prog := ⟨dtab, ofL Ed37, dtabOk, Ed37_ok, ddep, dord⟩
noncomputable def Fd10 : (List Int) → Option ((Tree × Int))
  | a0 =>
  if (decide ((a0.length : Int) > 65536)) = true then
   some ((Tree.node 0 ([] : List Int) ([] : List Tree)), 121)
  else
   (Fd37 (a0, 0, (a0.length : Int), 1)).bind fun (y1, y2, y3) =>
    if (y3 != 0) = true then
     some ((Tree.node 0 ([] : List Int) ([] : List Tree)), y3)
    else
     if (decide (y2 < (a0.length : Int))) = true then
      some ((Tree.node 0 ([] : List Int) ([] : List Tree)), 126)
     else
      some ((Tree.node y1.tag y1.body y1.kids), 0)

noncomputable def annd10 : Ann := .none
theorem eqd10 : ∀ x : Sd10.inT, exec dtab (ofL Ed37) 29 bodyd10 annd10 (finL dtab Sd10) (Sd10.inp.enc x) = Fd10 x := by
  intro x
  kernel_rfl
theorem callsd10 : CallsL Go.Proofs.Try.prog 10 Sd10 Fd10 := by
  refine fun_callsL (fn := Go.Proofs.Try.f10) (c := bodyd10) (ann := annd10) cd10 (by kernel_rfl) (by kernel_rfl) (by kernel_rfl) (by kernel_rfl) (by kernel_rfl) (annOk_of_cuts ?_) eqd10
  intro x hx
  exact absurd hx (by show x ∉ ([] : List (List Nat × LEnt)); simp)

theorem entd10 : EntOk Go.Proofs.Try.prog 10 (funEntL Sd10 true Fd10) := fun_okL (fn := Go.Proofs.Try.f10) (c := bodyd10) (by kernel_rfl) (by kernel_rfl) (by kernel_rfl) (by kernel_rfl) callsd10
noncomputable def Ed10 : List (Nat × Ent) := (10, (funEntL Sd10 true Fd10)) :: Ed37
theorem Ed10_ok : EntsOk Go.Proofs.Try.prog (ofL Ed10) := .cons entd10 Ed37_ok

/-! ### barbican/der.refuse -/
abbrev Sd41 : FL := ⟨⟨[], [.env 0 (.c (.int .i64))], []⟩, 1, [(.panic 79 0, ⟨[], [], []⟩)], [], false⟩
noncomputable def Fd41 : Int → Option (Int × Unit) := fun x => some (x, ())
noncomputable def bodyd41 : Code := (Go.Proofs.Try.f41.body).getD .skip
noncomputable def opsd41 : Array Oper := opsOf bodyd41
theorem callsd41 : CallsL Go.Proofs.Try.prog 41 Sd41 Fd41 := by
  intro us x y w fp β hlen hdfs hF R
  match us, hlen with
  | [v], _ =>
  have hv : v = .int .i64 x := by
    have := R.env 0 _ rfl
    simp only [AVRel, CVRel] at this
    exact this
  subst hv
  cases hF
  refine calls_of_wp (fn := Go.Proofs.Try.f41) (c := bodyd41) (by kernel_rfl) (by kernel_rfl) ?_
  have hb : bodyd41 = .region 0 opsd41 false := by kernel_rfl
  rw [hb]
  refine wp_region ?_
  have hs : List.range opsd41.size = [0, 1, 2, 3] := by kernel_rfl
  rw [hs]
  refine wpOps_val (o := opAt opsd41 0) (v := .int .i64 x) (w' := w) (by kernel_rfl) (by kernel_rfl) (by kernel_rfl) ?_
  refine wpOps_val (o := opAt opsd41 1) (v := .agg #[.int .i64 x]) (w' := w) (by kernel_rfl) (by kernel_rfl) (by kernel_rfl) ?_
  refine wpOps_val (o := opAt opsd41 2) (v := .iface 79 (.agg #[.int .i64 x])) (w' := w) (by kernel_rfl) (by kernel_rfl) (by kernel_rfl) ?_
  refine wpOps_halt (o := opAt opsd41 3) (v := .iface 79 (.agg #[.int .i64 x])) (w' := w) (by kernel_rfl) (by kernel_rfl) (by kernel_rfl) ?_
  have hfp : fp = ⟨fp.anc, fp.hb, []⟩ := by cases fp; simp only at hdfs; subst hdfs; rfl
  have R2 : Rel Go.Proofs.Try.prog w fp 0 β { env := fun _ => none, heap := (Sd41.inp.enc x).heap } { tmps := #[], defers := [] } w := by
    rw [hfp]
    exact (hfp ▸ R).act rfl rfl (Nat.zero_le _) (fun t av ht => by cases ht)
  exact ⟨rfl, β, [], R2, rfl, fun h => absurd rfl (h 79 x)⟩
theorem entd41 : EntOk Go.Proofs.Try.prog 41 (funEntL Sd41 true Fd41) := fun_okL (fn := Go.Proofs.Try.f41) (c := bodyd41) (by kernel_rfl) (by kernel_rfl) (by kernel_rfl) (by kernel_rfl) callsd41

noncomputable def Ed41 : List (Nat × Ent) := (41, funEntL Sd41 true Fd41) :: Ed10
theorem Ed41_ok : EntsOk Go.Proofs.Try.prog (ofL Ed41) := .cons entd41 Ed10_ok

/-! ### (*barbican/der.reader).take -/
noncomputable def bodyd55 : Code := (Go.Proofs.Try.f55.body).getD .skip
abbrev Sd55 : FL := ⟨⟨[(0, .ptr 1000000 0 1)], [.reg 1000000 (.cells [.fz (.int .u8)])], [(1000000, .env 0 0)]⟩, 1, [(.panic 79 0, ⟨[], [], []⟩), (.ret, ⟨[], [.env 0 (.c (.int .u8)), .reg 1000000 (.cells [.fz (.int .u8)])], []⟩)], [.tmp 2], true⟩
noncomputable def cd55 : Ctx Go.Proofs.Try.prog := ⟨dtab, ofL Ed41, dtabOk, Ed41_ok, ddep, dord⟩
noncomputable def Fd55 : (List Int) → Option ((Int × (Unit)) ⊕ (Int × (List Int)))
  | io =>
  if ((io.length : Int) == 0) = true then
   (Fd41 122).bind fun (e1, _) =>
    some (.inl (e1, ()))
  else
   if (0 : Int) ≤ (0 : Int) ∧ (0 : Int) < (io.length : Int) then
    if (0 : Int) ≤ (1 : Int) ∧ (1 : Int) ≤ (io.length : Int) then
     some (.inr ((io.getD 0 0), (io.drop 1)))
    else none
   else none

noncomputable def annd55 : Ann := .none
theorem eqd55 : ∀ x : Sd55.inT, exec dtab (ofL Ed41) 26 bodyd55 annd55 (finL dtab Sd55) (Sd55.inp.enc x) = Fd55 x := by
  intro x
  kernel_rfl
theorem callsd55 : CallsL Go.Proofs.Try.prog 55 Sd55 Fd55 := by
  refine fun_callsL (fn := Go.Proofs.Try.f55) (c := bodyd55) (ann := annd55) cd55 (by kernel_rfl) (by kernel_rfl) (by kernel_rfl) (by kernel_rfl) (by kernel_rfl) (annOk_of_cuts ?_) eqd55
  intro x hx
  exact absurd hx (by show x ∉ ([] : List (List Nat × LEnt)); simp)

theorem entd55 : EntOk Go.Proofs.Try.prog 55 (funEntL Sd55 true Fd55) := fun_okL (fn := Go.Proofs.Try.f55) (c := bodyd55) (by kernel_rfl) (by kernel_rfl) (by kernel_rfl) (by kernel_rfl) callsd55
noncomputable def Ed55 : List (Nat × Ent) := (55, (funEntL Sd55 true Fd55)) :: Ed41
theorem Ed55_ok : EntsOk Go.Proofs.Try.prog (ofL Ed55) := .cons entd55 Ed41_ok

/-! ### (*barbican/der.reader).cut -/
noncomputable def bodyd56 : Code := (Go.Proofs.Try.f56.body).getD .skip
abbrev Sd56 : FL := ⟨⟨[(0, .ptr 1000000 0 1)], [.reg 1000000 (.cells [.fz (.int .u8)]), .env 1 (.c (.int .i64))], [(1000000, .env 0 0)]⟩, 2, [(.panic 79 0, ⟨[], [], []⟩), (.ret, ⟨[], [.env 0 (.c (.fz (.int .u8))), .reg 1000000 (.cells [.fz (.int .u8)])], []⟩)], [.tmp 4], true⟩
noncomputable def cd56 : Ctx Go.Proofs.Try.prog := ⟨dtab, ofL Ed55, dtabOk, Ed55_ok, ddep, dord⟩
noncomputable def Fd56 : (List Int) × Int → Option ((Int × (Unit)) ⊕ ((List Int) × (List Int)))
  | (io, a1) =>
  if (decide (a1 > (io.length : Int))) = true then
   (Fd41 122).bind fun (e1, _) =>
    some (.inl (e1, ()))
  else
   if (0 : Int) ≤ a1 ∧ a1 ≤ (io.length : Int) then
    if (0 : Int) ≤ a1 ∧ a1 ≤ (io.length : Int) then
     some (.inr ((io.take a1.toNat), (io.drop a1.toNat)))
    else none
   else none

noncomputable def annd56 : Ann := .none
theorem eqd56 : ∀ x : Sd56.inT, exec dtab (ofL Ed55) 30 bodyd56 annd56 (finL dtab Sd56) (Sd56.inp.enc x) = Fd56 x := by
  rintro ⟨io, a1⟩
  kernel_rfl
theorem callsd56 : CallsL Go.Proofs.Try.prog 56 Sd56 Fd56 := by
  refine fun_callsL (fn := Go.Proofs.Try.f56) (c := bodyd56) (ann := annd56) cd56 (by kernel_rfl) (by kernel_rfl) (by kernel_rfl) (by kernel_rfl) (by kernel_rfl) (annOk_of_cuts ?_) eqd56
  intro x hx
  exact absurd hx (by show x ∉ ([] : List (List Nat × LEnt)); simp)

theorem entd56 : EntOk Go.Proofs.Try.prog 56 (funEntL Sd56 true Fd56) := fun_okL (fn := Go.Proofs.Try.f56) (c := bodyd56) (by kernel_rfl) (by kernel_rfl) (by kernel_rfl) (by kernel_rfl) callsd56
noncomputable def Ed56 : List (Nat × Ent) := (56, (funEntL Sd56 true Fd56)) :: Ed55
theorem Ed56_ok : EntsOk Go.Proofs.Try.prog (ofL Ed56) := .cons entd56 Ed55_ok

/-! ### (*barbican/der.reader).length -/
noncomputable def bodyd57 : Code := (Go.Proofs.Try.f57.body).getD .skip
abbrev Sd57 : FL := ⟨⟨[(0, .ptr 1000000 0 1)], [.reg 1000000 (.cells [.fz (.int .u8)])], [(1000000, .env 0 0)]⟩, 1, [(.panic 79 0, ⟨[], [], []⟩), (.ret, ⟨[], [.env 0 (.c (.int .i64)), .reg 1000000 (.cells [.fz (.int .u8)])], []⟩)], [.tmp 2], true⟩
noncomputable def cd57 : Ctx Go.Proofs.Try.prog := ⟨dtab, ofL Ed56, dtabOk, Ed56_ok, ddep, dord⟩
abbrev ld57_0 : Lay := ⟨[], [.env 4 (.c (.int .i64)), .env 5 (.c (.fz (.int .u8))), .env 26 (.c (.fz (.int .u8))), .env 27 (.c (.int .i64)), .env 28 (.c (.int .i64)), .reg 1000000 (.cells [.fz (.int .u8)])], []⟩
abbrev od57_0 : List (AExit × Lay) := [(.exit 0, ⟨[], [.env 4 (.c (.int .i64)), .env 5 (.c (.fz (.int .u8))), .reg 1000000 (.cells [.fz (.int .u8)])], []⟩)]
noncomputable def stepd57_0 : Int × (List Int) × (List Int) × Int × Int × (List Int) → Option ((Int × (List Int) × (List Int) × Int × Int × (List Int)) ⊕ ((Int × (List Int) × (List Int))))
  | (t4, t5, t26, t27, t28, r1000000) =>
  if (decide (t28 < t27)) = true then
   if (0 : Int) ≤ t28 ∧ t28 < (t26.length : Int) then
    let x8 : Int := (bitsOr .i64 (shlI .i64 t4 8) (IntKind.i64.wrap (t26.getD t28.toNat 0)))
    some (.inl (x8, t5, t26, t27, (IntKind.i64.wrap (t28 + 1)), r1000000))
   else none
  else
   some (.inr (t4, t5, r1000000))

noncomputable def annd57_0 : Ann := .none
noncomputable def Fd57 : (List Int) → Option ((Int × (Unit)) ⊕ (Int × (List Int)))
  | io =>
  (Fd55 io).bind fun
   | (.inl (e1, _)) =>
    some (.inl (e1, ()))
   | (.inr (y2, y3)) =>
    if (decide (y2 < 128)) = true then
     some (.inr ((IntKind.i64.wrap y2), y3))
    else
     if (y2 == 128) = false then
      if (decide (y2 > 131)) = true then
       (Fd41 124).bind fun (e4, _) =>
        some (.inl (e4, ()))
      else
       (Fd56 (y3, (IntKind.i64.wrap (bitsAnd .u8 y2 127)))).bind fun
        | (.inl (e5, _)) =>
         some (.inl (e5, ()))
        | (.inr (y6, y7)) =>
         (loopO stepd57_0 (0, y6, y6, (y6.length : Int), 0, y7)).bind fun (z9, z10, z11) =>
          if (0 : Int) ≤ (0 : Int) ∧ (0 : Int) < (z10.length : Int) then
           if ((z10.getD 0 0) == 0) = false then
            if (decide (z9 < 128)) = true then
             (Fd41 124).bind fun (e12, _) =>
              some (.inl (e12, ()))
            else
             some (.inr (z9, z11))
           else
            (Fd41 124).bind fun (e13, _) =>
             some (.inl (e13, ()))
          else none
     else
      (Fd41 124).bind fun (e14, _) =>
       some (.inl (e14, ()))

noncomputable def annd57 : Ann := (.seq .none (.seq .none (.seq .none (.seq .none (.seq .none (.seq .none (.seq (.seq .none (.seq (.cut (cutEnt ld57_0 od57_0 (loopO (stepd57_0)))) .none)) .none)))))))
theorem eqd57_0 : ∀ s : ld57_0.T, exec dtab (ofL Ed56) 48 (Code.at' [1, 1, 1, 1, 1, 1, 0, 1, 0, 0] bodyd57) annd57_0 (fun e st => loopEnd (l := ld57_0) (outs := od57_0) e st) (ld57_0.enc s) = stepd57_0 s := by
  rintro ⟨t4, t5, t26, t27, t28, r1000000⟩
  kernel_rfl
theorem okd57_0 : LOk Go.Proofs.Try.prog 48 (cutEnt ld57_0 od57_0 (loopO stepd57_0)) (Code.at' [1, 1, 1, 1, 1, 1, 0, 1, 0] bodyd57) := by
  have e : Code.at' [1, 1, 1, 1, 1, 1, 0, 1, 0] bodyd57 = .loop (Code.at' [1, 1, 1, 1, 1, 1, 0, 1, 0, 0] bodyd57) := by kernel_rfl
  rw [e]
  refine loop_ok cd57 48 rfl rfl (annOk_of_cuts ?_) eqd57_0
  intro x hx
  exact absurd hx (by show x ∉ ([] : List (List Nat × LEnt)); simp)

theorem eqd57 : ∀ x : Sd57.inT, exec dtab (ofL Ed56) 48 bodyd57 annd57 (finL dtab Sd57) (Sd57.inp.enc x) = Fd57 x := by
  intro x
  kernel_rfl
theorem callsd57 : CallsL Go.Proofs.Try.prog 57 Sd57 Fd57 := by
  refine fun_callsL (fn := Go.Proofs.Try.f57) (c := bodyd57) (ann := annd57) cd57 (by kernel_rfl) (by kernel_rfl) (by kernel_rfl) (by kernel_rfl) (by kernel_rfl) (annOk_of_cuts ?_) eqd57
  have hc : Ann.cuts annd57 = [([1, 1, 1, 1, 1, 1, 0, 1, 0], (cutEnt ld57_0 od57_0 (loopO (stepd57_0))))] := by kernel_rfl
  rw [hc]
  intro x hx
  simp only [List.mem_cons, List.not_mem_nil, or_false] at hx
  rcases hx with rfl
  · have e : Code.at' [1, 1, 1, 1, 1, 1, 0, 1, 0] bodyd57 = Code.at' [1, 1, 1, 1, 1, 1, 0, 1, 0] bodyd57 := by kernel_rfl
    rw [e]; exact okd57_0

theorem entd57 : EntOk Go.Proofs.Try.prog 57 (funEntL Sd57 true Fd57) := fun_okL (fn := Go.Proofs.Try.f57) (c := bodyd57) (by kernel_rfl) (by kernel_rfl) (by kernel_rfl) (by kernel_rfl) callsd57
noncomputable def Ed57 : List (Nat × Ent) := (57, (funEntL Sd57 true Fd57)) :: Ed56
theorem Ed57_ok : EntsOk Go.Proofs.Try.prog (ofL Ed57) := .cons entd57 Ed56_ok

/-! ### barbican/der.built -/
noncomputable def bodyd58 : Code := (Go.Proofs.Try.f58.body).getD .skip
abbrev Sd58 : FL := ⟨⟨[], [.env 0 (.c (.int .u8))], []⟩, 1, [(.ret, ⟨[], [.env 0 (.c (.bool))], []⟩)], [.tmp 2], false⟩
noncomputable def cd58 : Ctx Go.Proofs.Try.prog := ⟨dtab, ofL Ed57, dtabOk, Ed57_ok, ddep, dord⟩
noncomputable def Fd58 : Int → Option ((Bool))
  | a0 =>
  some ((bitsAnd .u8 a0 32) != 0)

noncomputable def annd58 : Ann := .none
theorem eqd58 : ∀ x : Sd58.inT, exec dtab (ofL Ed57) 6 bodyd58 annd58 (finL dtab Sd58) (Sd58.inp.enc x) = Fd58 x := by
  intro x
  kernel_rfl
theorem callsd58 : CallsL Go.Proofs.Try.prog 58 Sd58 Fd58 := by
  refine fun_callsL (fn := Go.Proofs.Try.f58) (c := bodyd58) (ann := annd58) cd58 (by kernel_rfl) (by kernel_rfl) (by kernel_rfl) (by kernel_rfl) (by kernel_rfl) (annOk_of_cuts ?_) eqd58
  intro x hx
  exact absurd hx (by show x ∉ ([] : List (List Nat × LEnt)); simp)

theorem entd58 : EntOk Go.Proofs.Try.prog 58 (funEntL Sd58 true Fd58) := fun_okL (fn := Go.Proofs.Try.f58) (c := bodyd58) (by kernel_rfl) (by kernel_rfl) (by kernel_rfl) (by kernel_rfl) callsd58
noncomputable def Ed58 : List (Nat × Ent) := (58, (funEntL Sd58 true Fd58)) :: Ed57
theorem Ed58_ok : EntsOk Go.Proofs.Try.prog (ofL Ed58) := .cons entd58 Ed57_ok

/-! ### slices.Clone[[]byte,byte] -/
abbrev Sd44 : FL := ⟨⟨[], [.env 0 (.c (.fz (.int .u8)))], []⟩, 1, [(.ret, ⟨[(0, .full 1)], [.reg 1 (.row 5 .u8)], [(1, .env 0 0)]⟩)], [.tmp 2], false⟩
noncomputable def Fd44 : List Int → Option (List Int) := fun (x : List Int) => if okBytes x.length 1 then some x else none
noncomputable def bodyd44 : Code := (Go.Proofs.Try.f44.body).getD .skip
noncomputable def cd44 : Ctx Go.Proofs.Try.prog := ⟨dtab, ofL dE0, dtabOk, dE0_ok, ddep, dord⟩
noncomputable def oad44 : Array Oper := opsOf (Code.at' [0] bodyd44)
noncomputable def obd44 : Array Oper := opsOf (Code.at' [1, 0, 0] bodyd44)
theorem atd44 : bodyd44 = .seq (.region 0 oad44 false) (.seq (.seq (.region 1 obd44 false) (.cond (.tmp 4) (Code.at' [1, 0, 1, 0] bodyd44) .skip)) (Code.at' [1, 1] bodyd44)) := by kernel_rfl
theorem exad44 (x : List Int) : exec dtab (ofL dE0) 8 (Code.at' [1, 0, 1, 0] bodyd44) .none (finR dtab Sd44) (Sd44.inp.enc x) = some [] := by kernel_rfl
theorem exbd44 (x : List Int) : exec dtab (ofL dE0) 8 (Code.at' [1, 1] bodyd44) .none (finL dtab Sd44) (Sd44.inp.enc x) = if okBytes ((List.replicate 0 (0 : Int)).length + x.length) 1 then some ((List.replicate 0 (0 : Int)) ++ x) else none := by kernel_rfl

theorem callsd44 : CallsL Go.Proofs.Try.prog 44 Sd44 Fd44 := by
  intro us x y w fp β hlen hdfs hF R
  obtain ⟨anc, hb, dfs⟩ := fp
  have hdfs : dfs = [] := hdfs
  subst hdfs
  match us, hlen with
  | [v], _ =>
  have hok : okBytes (List.length (α := Int) x) 1 ∧ y = x := by
    unfold Fd44 at hF
    split at hF
    · rename_i h; exact ⟨h, (Option.some.inj hF).symm⟩
    · cases hF
  obtain ⟨hok, rfl⟩ := hok
  have h0 := R.env 0 _ rfl
  simp only [AVRel, CVRel] at h0
  have h1 : ∃ A cap, v = .slice A (List.length (α := Int) y) cap ∧ (A = none → y = [] ∧ cap = 0) := by
    cases h0 with
    | fz _ _ _ A c hn hc h0 hat => exact ⟨A, c, rfl, h0⟩
  obtain ⟨A, cap, rfl, hA⟩ := h1
  refine calls_of_wp (fn := Go.Proofs.Try.f44) (c := bodyd44) (by kernel_rfl) (by kernel_rfl) ?_
  have n8 : Go.Proofs.Try.f44.ntmps = 8 := by kernel_rfl
  have d0 : (opAt oad44 0).dst = some 2 := by kernel_rfl
  have d1 : (opAt obd44 0).dst = some 3 := by kernel_rfl
  have d2 : (opAt obd44 1).dst = some 4 := by kernel_rfl
  rw [atd44, n8]
  refine wp_seq (wp_region ?_)
  have r0 : List.range oad44.size = [0] := by kernel_rfl
  rw [r0]
  refine wpOps_val (o := opAt oad44 0) (v := .slice none 0 0) (w' := w) (by kernel_rfl) (by kernel_rfl) (by kernel_rfl) ?_
  refine wp_seq (wp_seq (wp_region ?_))
  have r1 : List.range obd44.size = [0, 1] := by kernel_rfl
  rw [r1]
  refine wpOps_val (o := opAt obd44 0) (v := .slice A (List.length (α := Int) y) cap) (w' := w) (by kernel_rfl) (by kernel_rfl) (by kernel_rfl) ?_
  cases A with
  | none =>
    obtain ⟨rfl, rfl⟩ := hA rfl
    refine wpOps_val (o := opAt obd44 1) (v := .bool true) (w' := w) (by kernel_rfl) (by kernel_rfl) (by kernel_rfl) ?_
    rw [d0, d1, d2]
    refine wp_cond_true rfl ?_
    refine wp_mono (rest_callsR cd44 (fn := Go.Proofs.Try.f44) (S := Sd44) (c := Code.at' [1, 0, 1, 0] bodyd44) (ann := .none) (y := []) (w := w) (fp := ⟨anc, hb, []⟩) (β := β) (by kernel_rfl) (by kernel_rfl) (by kernel_rfl) (annOk_of_cuts (fun x hx => absurd hx (by show x ∉ ([] : List (List Nat × LEnt)); simp))) rfl (exad44 []) ?_) ?_
    · rw [n8]
      refine R.act rfl rfl (by decide) (fun t av ht => ?_)
      have := R.env t av ht
      cases t with
      | zero => exact this
      | succ t => cases ht
    · intro e a w' h
      cases e <;> first | exact h | exact h.elim
  | some a' =>
    refine wpOps_val (o := opAt obd44 1) (v := .bool false) (w' := w) (by kernel_rfl) (by kernel_rfl) (by kernel_rfl) ?_
    rw [d0, d1, d2]
    refine wp_cond_false rfl (wp_skip ?_)
    have ex := exbd44 y
    rw [if_pos (by simpa using hok)] at ex
    have e1 : List.replicate 0 (0 : Int) ++ y = y := rfl
    rw [e1] at ex
    refine wp_mono (rest_callsL cd44 (fn := Go.Proofs.Try.f44) (S := Sd44) (c := Code.at' [1, 1] bodyd44) (ann := .none) (y := y) (w := w) (fp := ⟨anc, hb, []⟩) (β := β) (by kernel_rfl) (by kernel_rfl) (by kernel_rfl) (annOk_of_cuts (fun x hx => absurd hx (by show x ∉ ([] : List (List Nat × LEnt)); simp))) rfl ex ?_) ?_
    · rw [n8]
      refine R.act rfl (by simp [Act.put]) (by decide) (fun t av ht => ?_)
      have := R.env t av ht
      cases t with
      | zero =>
        generalize hq : (Value.slice (some a') (List.length (α := Int) y) cap) = q at this ⊢
        simpa [Act.put] using this
      | succ t => cases ht
    · intro e a w' h
      exact h
theorem entd44 : EntOk Go.Proofs.Try.prog 44 (funEntL Sd44 true Fd44) := fun_okL (fn := Go.Proofs.Try.f44) (c := bodyd44) (by kernel_rfl) (by kernel_rfl) (by kernel_rfl) (by kernel_rfl) callsd44

noncomputable def Ed44 : List (Nat × Ent) := (44, funEntL Sd44 true Fd44) :: Ed58
theorem Ed44_ok : EntsOk Go.Proofs.Try.prog (ofL Ed44) := .cons entd44 Ed58_ok

/-! ### (*barbican/der.reader).item -/
noncomputable def bodyd40 : Code := (Go.Proofs.Try.f40.body).getD .skip
abbrev Sd40 : FL := ⟨⟨[(0, .ptr 1000000 0 1)], [.reg 1000000 (.cells [.fz (.int .u8)]), .env 1 (.c (.int .i64))], [(1000000, .env 0 0)]⟩, 2, [(.ret, ⟨[], [.env 0 (.dat .item), .reg 1000000 (.cells [.fz (.int .u8)])], []⟩), (.panic 79 0, ⟨[], [], []⟩)], [.cell 4 25], true⟩
noncomputable def cd40 (G : Sd40.inT → Option Sd40.outT) (hG : CallsL Go.Proofs.Try.prog 40 Sd40 G) : Ctx Go.Proofs.Try.prog := ⟨dtab, ofL ((40, funEntL Sd40 true G) :: Ed44), dtabOk, .cons (fun_okL (fn := Go.Proofs.Try.f40) (c := bodyd40) (by kernel_rfl) (by kernel_rfl) (by kernel_rfl) (by kernel_rfl) hG) Ed44_ok, ddep, dord⟩
abbrev ld40_0 : Lay := ⟨[(4, .ptr 4 0 3), (5, .ptr 5 0 3), (7, .ptr 33 0 1)], [.env 1 (.c (.int .i64)), .reg 4 (.cells [.int .u8, .nils, .nils]), .reg 5 (.cells [.int .u8, .nils, .full 600322]), .reg 600322 (.rowd 25 .item), .reg 33 (.cells [.fz (.int .u8)]), .reg 1000000 (.cells [.fz (.int .u8)])], [(4, .env 4 0), (5, .env 5 0), (33, .env 7 0), (600322, .reg 5 2)]⟩
abbrev od40_0 : List (AExit × Lay) := [(.panic 79 0, ⟨[], [], []⟩), (.exit 0, ⟨[(4, .ptr 4 0 3), (5, .ptr 5 0 3)], [.reg 4 (.cells [.int .u8, .nils, .nils]), .reg 5 (.cells [.int .u8, .nils, .full 600322]), .reg 600322 (.rowd 25 .item), .reg 1000000 (.cells [.fz (.int .u8)])], [(4, .env 4 0), (5, .env 5 0), (600322, .reg 5 2)]⟩)]
noncomputable def stepd40_0 (G : (List Int) × Int → Option ((Tree × (List Int)) ⊕ (Int × (Unit)))) : Int × (Int × Unit × Unit) × (Int × Unit × Unit) × List Tree × (List Int) × (List Int) → Option ((Int × (Int × Unit × Unit) × (Int × Unit × Unit) × List Tree × (List Int) × (List Int)) ⊕ ((Int × (Unit)) ⊕ ((Int × Unit × Unit) × (Int × Unit × Unit) × List Tree × (List Int))))
  | (t1, r4, r5, r600322, r33, r1000000) =>
  if (decide ((r33.length : Int) > 0)) = true then
   (G (r33, (IntKind.i64.wrap (t1 + 1)))).bind fun
    | (.inl (y14, y15)) =>
     if okBytes (r600322.length + ([(Tree.node y14.tag y14.body y14.kids)] : List Tree).length) 56 then
      let f16 : List Tree := (r600322 ++ ([(Tree.node y14.tag y14.body y14.kids)] : List Tree))
      some (.inl (t1, (r4.1, (), ()), (r5.1, (), ()), f16, y15, r1000000))
     else none
    | (.inr (e17, _)) =>
     some (.inr (.inl (e17, ())))
  else
   some (.inr (.inr ((r4.1, (), ()), (r5.1, (), ()), r600322, r1000000)))

noncomputable def annd40_0 (G : (List Int) × Int → Option ((Tree × (List Int)) ⊕ (Int × (Unit)))) : Ann := .none
noncomputable def Bd40 (G : (List Int) × Int → Option ((Tree × (List Int)) ⊕ (Int × (Unit)))) : (List Int) × Int → Option ((Tree × (List Int)) ⊕ (Int × (Unit)))
  | (io, a1) =>
  if (decide (a1 > 16)) = true then
   (Fd41 125).bind fun (e1, _) =>
    some (.inr (e1, ()))
  else
   (Fd55 io).bind fun
    | (.inl (e2, _)) =>
     some (.inr (e2, ()))
    | (.inr (y3, y4)) =>
     if ((bitsAnd .u8 y3 31) == 31) = true then
      (Fd41 123).bind fun (e5, _) =>
       some (.inr (e5, ()))
     else
      (Fd57 y4).bind fun
       | (.inl (e6, _)) =>
        some (.inr (e6, ()))
       | (.inr (y7, y8)) =>
        (Fd56 (y8, y7)).bind fun
         | (.inl (e9, _)) =>
          some (.inr (e9, ()))
         | (.inr (y10, y11)) =>
          (Fd58 y3).bind fun y12 =>
           if (!y12) = true then
            (Fd44 y10).bind fun y13 =>
             some (.inl ((Tree.node y3 y13 ([] : List Tree)), y11))
           else
            (loopO (stepd40_0 G) (a1, (0, (), ()), (y3, (), ()), ([] : List Tree), y10, y11)).bind fun
             | (.inl (e18, _)) =>
              some (.inr (e18, ()))
             | (.inr (z19, z20, z21, z22)) =>
              some (.inl ((Tree.node z20.1 ([] : List Int) z21), z22))

noncomputable def annd40 (G : (List Int) × Int → Option ((Tree × (List Int)) ⊕ (Int × (Unit)))) : Ann := (.seq .none (.seq .none (.seq .none (.seq .none (.seq .none (.seq .none (.seq (.seq .none (.seq (.cut (cutEnt ld40_0 od40_0 (loopO (stepd40_0 G)))) .none)) .none)))))))
theorem eqd40_0 (G : Sd40.inT → Option Sd40.outT) (hG : CallsL Go.Proofs.Try.prog 40 Sd40 G) : ∀ s : ld40_0.T, exec dtab (ofL ((40, funEntL Sd40 true G) :: Ed44)) 50 (Code.at' [1, 1, 1, 1, 1, 1, 0, 1, 0, 0] bodyd40) (annd40_0 G) (fun e st => loopEnd (l := ld40_0) (outs := od40_0) e st) (ld40_0.enc s) = stepd40_0 G s := by
  rintro ⟨t1, r4, r5, r600322, r33, r1000000⟩
  kernel_rfl
theorem okd40_0 (G : Sd40.inT → Option Sd40.outT) (hG : CallsL Go.Proofs.Try.prog 40 Sd40 G) : LOk Go.Proofs.Try.prog 50 (cutEnt ld40_0 od40_0 (loopO (stepd40_0 G))) (Code.at' [1, 1, 1, 1, 1, 1, 0, 1, 0] bodyd40) := by
  have e : Code.at' [1, 1, 1, 1, 1, 1, 0, 1, 0] bodyd40 = .loop (Code.at' [1, 1, 1, 1, 1, 1, 0, 1, 0, 0] bodyd40) := by kernel_rfl
  rw [e]
  refine loop_ok (cd40 G hG) 50 rfl rfl (annOk_of_cuts ?_) (eqd40_0 G hG)
  intro x hx
  exact absurd hx (by show x ∉ ([] : List (List Nat × LEnt)); simp)

theorem eqd40 (G : Sd40.inT → Option Sd40.outT) (hG : CallsL Go.Proofs.Try.prog 40 Sd40 G) : ∀ x : Sd40.inT, exec dtab (ofL ((40, funEntL Sd40 true G) :: Ed44)) 50 bodyd40 (annd40 G) (finL dtab Sd40) (Sd40.inp.enc x) = Bd40 G x := by
  rintro ⟨io, a1⟩
  kernel_rfl
theorem bcallsd40 (G : Sd40.inT → Option Sd40.outT) (hG : CallsL Go.Proofs.Try.prog 40 Sd40 G) : CallsL Go.Proofs.Try.prog 40 Sd40 (Bd40 G) := by
  refine fun_callsL (fn := Go.Proofs.Try.f40) (c := bodyd40) (ann := (annd40 G)) (cd40 G hG) (by kernel_rfl) (by kernel_rfl) (by kernel_rfl) (by kernel_rfl) (by kernel_rfl) (annOk_of_cuts ?_) (eqd40 G hG)
  have hc : Ann.cuts (annd40 G) = [([1, 1, 1, 1, 1, 1, 0, 1, 0], (cutEnt ld40_0 od40_0 (loopO (stepd40_0 G))))] := by kernel_rfl
  rw [hc]
  intro x hx
  simp only [List.mem_cons, List.not_mem_nil, or_false] at hx
  rcases hx with rfl
  · have e : Code.at' [1, 1, 1, 1, 1, 1, 0, 1, 0] bodyd40 = Code.at' [1, 1, 1, 1, 1, 1, 0, 1, 0] bodyd40 := by kernel_rfl
    rw [e]; exact okd40_0 G hG

noncomputable def FRd40 : Nat → (List Int) × Int → Option ((Tree × (List Int)) ⊕ (Int × (Unit)))
  | 0 => fun _ => none
  | k + 1 => Bd40 (FRd40 k)
theorem rcallsd40 : ∀ k, CallsL Go.Proofs.Try.prog 40 Sd40 (FRd40 k)
  | 0 => fun _ _ _ _ _ _ _ _ h => by cases h
  | k + 1 => bcallsd40 (FRd40 k) (rcallsd40 k)
noncomputable def Fd40 (x : (List Int) × Int) : Option ((Tree × (List Int)) ⊕ (Int × (Unit))) := FRd40 (20) x
theorem callsd40 : CallsL Go.Proofs.Try.prog 40 Sd40 Fd40 := fun us x y w fp β h1 h2 h3 h4 => rcallsd40 _ us x y w fp β h1 h2 h3 h4
theorem entd40 : EntOk Go.Proofs.Try.prog 40 (funEntL Sd40 true Fd40) := fun_okL (fn := Go.Proofs.Try.f40) (c := bodyd40) (by kernel_rfl) (by kernel_rfl) (by kernel_rfl) (by kernel_rfl) callsd40
noncomputable def Ed40 : List (Nat × Ent) := (40, (funEntL Sd40 true Fd40)) :: Ed44
theorem Ed40_ok : EntsOk Go.Proofs.Try.prog (ofL Ed40) := .cons entd40 Ed44_ok

/-! ### barbican/der.Decode -/
/-! ### der.caught, by hand -/
noncomputable def bodyd39 : Code := (Go.Proofs.Try.f39.body).getD .skip
noncomputable def oad39 : Array Oper := opsOf (Code.at' [0, 0] bodyd39)
noncomputable def obd39 : Array Oper := opsOf (Code.at' [1, 0] bodyd39)
theorem atd39 : bodyd39 = .seq (.seq (.region 0 oad39 false) (.cond (.tmp 7) .ret .skip)) (.seq (.region 1 obd39 false) (Code.at' [1, 1] bodyd39)) := by kernel_rfl
abbrev Sd39 : FL := ⟨⟨[(1, .ptr 1000000 0 1)], [.reg 1000000 (.cells [.int .i64])], [(1000000, .env 1 0)]⟩, 2, [(.ret, ⟨[], [.reg 1000000 (.cells [.int .i64])], []⟩)], [], false⟩
noncomputable def cd39 : Ctx Go.Proofs.Try.prog := ⟨dtab, ofL dE0, dtabOk, dE0_ok, ddep, dord⟩
noncomputable def std39 (n : Int) (x : Sd39.inT) : St := { env := upd (upd (Sd39.inp.enc x).env 11 (some (.agg [.int .i64 n]))) 12 (some (.c (.bool true))), heap := (Sd39.inp.enc x).heap }
noncomputable def Fd39 (n : Int) (x : Sd39.inT) : Option Sd39.outT := some n
theorem exd39 (n : Int) : ∀ x, execOps dtab (ofL dE0) 20 obd39 ((List.range' 5 3).map (opAt obd39)) (std39 n x) [] (fun st' _ => exec dtab (ofL dE0) 20 (Code.at' [1, 1] bodyd39) .none (finL dtab Sd39) st') (fun _ _ _ _ _ => none) = Fd39 n x := by
  intro x
  kernel_rfl
theorem nild39 (v : Value) (w : World) : Calls Go.Proofs.Try.prog 39 #[.nilIface, v] w fun e w' => e = .returned (.tuple #[]) ∧ w' = w := by
  refine calls_of_wp (fn := Go.Proofs.Try.f39) (c := bodyd39) (by kernel_rfl) (by kernel_rfl) ?_
  have n20 : Go.Proofs.Try.f39.ntmps = 20 := by kernel_rfl
  have d0 : (opAt oad39 0).dst = some 6 := by kernel_rfl
  have d1 : (opAt oad39 1).dst = some 7 := by kernel_rfl
  rw [atd39, n20]
  refine wp_seq (wp_seq (wp_region ?_))
  have r0 : List.range oad39.size = [0, 1] := by kernel_rfl
  rw [r0]
  refine wpOps_val (o := opAt oad39 0) (v := .nilIface) (w' := w) (by kernel_rfl) (by kernel_rfl) (by kernel_rfl) ?_
  refine wpOps_val (o := opAt oad39 1) (v := .bool true) (w' := w) (by kernel_rfl) (by kernel_rfl) (by kernel_rfl) ?_
  rw [d0, d1]
  refine wp_cond_true (by kernel_rfl) (wp_ret ?_)
  exact ⟨rfl, .tuple #[], by kernel_rfl, rfl, rfl⟩
theorem numd39 (n : Int) (pv : Value) (x : Sd39.inT) (y : Sd39.outT) (w : World) (fp : FP) (β : Nat → Value) (hF : Fd39 n x = some y) (hdfs : fp.dfs = []) (R : Rel Go.Proofs.Try.prog w fp 2 β (Sd39.inp.enc x) { tmps := #[.iface 79 (.agg #[.int .i64 n]), pv], defers := [] } w) :
    Calls Go.Proofs.Try.prog 39 #[.iface 79 (.agg #[.int .i64 n]), pv] w (EndL Go.Proofs.Try.prog Sd39 fp w y) := by
  refine calls_of_wp (fn := Go.Proofs.Try.f39) (c := bodyd39) (by kernel_rfl) (by kernel_rfl) ?_
  have n20 : Go.Proofs.Try.f39.ntmps = 20 := by kernel_rfl
  obtain ⟨anc, hb, dfs⟩ := fp
  have hdfs : dfs = [] := hdfs
  subst hdfs
  have d0 : (opAt oad39 0).dst = some 6 := by kernel_rfl
  have d1 : (opAt oad39 1).dst = some 7 := by kernel_rfl
  have e0 : (opAt obd39 0).dst = some 9 := by kernel_rfl
  have e1 : (opAt obd39 1).dst = some 10 := by kernel_rfl
  have e2 : (opAt obd39 2).dst = some 8 := by kernel_rfl
  have e3 : (opAt obd39 3).dst = some 11 := by kernel_rfl
  have e4 : (opAt obd39 4).dst = some 12 := by kernel_rfl
  rw [atd39, n20]
  refine wp_seq (wp_seq (wp_region ?_))
  have r0 : List.range oad39.size = [0, 1] := by kernel_rfl
  rw [r0]
  refine wpOps_val (o := opAt oad39 0) (v := .iface 79 (.agg #[.int .i64 n])) (w' := w) (by kernel_rfl) (by kernel_rfl) (by kernel_rfl) ?_
  refine wpOps_val (o := opAt oad39 1) (v := .bool false) (w' := w) (by kernel_rfl) (by kernel_rfl) (by kernel_rfl) ?_
  rw [d0, d1]
  refine wp_cond_false (by kernel_rfl) (wp_skip ?_)
  refine wp_seq (wp_region ?_)
  have r1 : List.range obd39.size = 0 :: 1 :: 2 :: 3 :: 4 :: (List.range' 5 3 ++ []) := by kernel_rfl
  rw [r1]
  refine wpOps_val (o := opAt obd39 0) (v := .iface 79 (.agg #[.int .i64 n])) (w' := w) (by kernel_rfl) (by kernel_rfl) (by kernel_rfl) ?_
  refine wpOps_val (o := opAt obd39 1) (v := .tuple #[.agg #[.int .i64 n], .bool true]) (w' := w) (by kernel_rfl) (by kernel_rfl) (by kernel_rfl) ?_
  refine wpOps_val (o := opAt obd39 2) (v := .tuple #[.agg #[.int .i64 n], .bool true]) (w' := w) (by kernel_rfl) (by kernel_rfl) (by kernel_rfl) ?_
  refine wpOps_val (o := opAt obd39 3) (v := .agg #[.int .i64 n]) (w' := w) (by kernel_rfl) (by kernel_rfl) (by kernel_rfl) ?_
  refine wpOps_val (o := opAt obd39 4) (v := .bool true) (w' := w) (by kernel_rfl) (by kernel_rfl) (by kernel_rfl) ?_
  rw [e0, e1, e2, e3, e4]
  have e := exd39 n x
  rw [hF] at e
  have hall := opAt_all (ops := obd39) (i := 5) (k := 3) (by kernel_rfl)
  refine ops_sound cd39 (i := 5) (ops := (List.range' 5 3).map (opAt obd39)) (w0 := w) (fp := ⟨anc, hb, []⟩) e hall ⟨β, ?_⟩ ?_ ?_
  · refine R.act rfl (by simp [Act.put]) (by decide) (fun t av ht => ?_)
    by_cases h12 : t = 12
    · subst h12
      have ht : some (AV.c (.bool true)) = some av := ht
      cases ht
      exact avBool (by kernel_rfl)
    · by_cases h11 : t = 11
      · subst h11
        have ht : some (AV.agg [.int .i64 n]) = some av := ht
        cases ht
        exact avNum (by kernel_rfl)
      · have ht : upd (upd (Sd39.inp.enc x).env 11 (some (.agg [.int .i64 n]))) 12 (some (.c (.bool true))) t = some av := ht
        rw [upd_ne _ _ h12, upd_ne _ _ h11] at ht
        have h1 := R.env t av ht
        match t with
        | 0 => cases ht
        | 1 => exact avEq h1 (by kernel_rfl)
        | t + 2 => cases ht
  · rintro st' _ a w' h1 ⟨β', R'⟩
    exact wpOps_end (rest_callsL cd39 (fn := Go.Proofs.Try.f39) (S := Sd39) (c := Code.at' [1, 1] bodyd39) (ann := .none) (y := y) (w := w) (w1 := w') (st := st') (a := a) (β := β') (fp := ⟨anc, hb, []⟩) (by kernel_rfl) (by kernel_rfl) (by kernel_rfl) noCuts rfl h1 R')
  · intro t m st' rest _ a w' h1
    cases h1
noncomputable def entd39 : Ent := caughtEnt 79 Sd39 Fd39
theorem entd39_ok : EntOk Go.Proofs.Try.prog 39 entd39 := caught_ok (fn := Go.Proofs.Try.f39) (c := bodyd39) (by kernel_rfl) (by kernel_rfl) (by kernel_rfl) (by kernel_rfl) numd39 nild39
noncomputable def Ed39 : List (Nat × Ent) := [(39, entd39)]
theorem Ed39_ok : EntsOk Go.Proofs.Try.prog (ofL Ed39) := .cons entd39_ok (.nil _)

/-! ### the closure 38, by hand -/
noncomputable def bodyd38 : Code := (Go.Proofs.Try.f38.body).getD .skip
noncomputable def oad38 : Array Oper := opsOf (Code.at' [0] bodyd38)
theorem atd38 : bodyd38 = .seq (.region 0 oad38 false) (Code.at' [1] bodyd38) := by kernel_rfl
abbrev Sd38 : FL := ⟨⟨[(0, .ptr 1000000 0 1), (1, .ptr 1000001 0 3)], [.reg 1000000 (.cells [.int .i64]), .reg 1000001 (.cells [.int .u8, .fz (.int .u8), .fz .item])], [(1000000, .env 0 0), (1000001, .env 1 0)]⟩, 2, [(.ret, ⟨[], [.reg 1000000 (.cells [.int .i64]), .reg 1000001 (.cells [.int .u8, .fz (.int .u8), .fz .item])], []⟩)], [], true⟩
noncomputable def cd38 : Ctx Go.Proofs.Try.prog := ⟨dtab, ofL Ed39, dtabOk, Ed39_ok, ddep, dord⟩
noncomputable def FRd38 : Int × Int × List Int × List Tree → Option (Int × Int × List Int × List Tree) := fun (e, t, b, k) => if (e != 0) = true then some (e, 0, [], []) else some (e, t, b, k)
noncomputable def FPd38 (n : Int) : Int × Int × List Int × List Tree → Option (Int × Int × List Int × List Tree) := fun (e, t, b, k) => if (n != 0) = true then some (n, 0, [], []) else some (n, t, b, k)
theorem eqRd38 : ∀ x, cloF dtab (ofL Ed39) 7 Sd38 oad38 2 (opAt oad38 1) (Code.at' [1] bodyd38) .none .nilIface x = FRd38 x := by
  rintro ⟨e, i⟩
  kernel_rfl
theorem eqPd38 (n : Int) : ∀ x, cloF dtab (ofL Ed39) 7 Sd38 oad38 2 (opAt oad38 1) (Code.at' [1] bodyd38) .none (.iface 79 (.agg #[.int .i64 n])) x = FPd38 n x := by
  rintro ⟨e, i⟩
  kernel_rfl
theorem clod38 {u u' : FrameMode} {v : Value} (hu : Recovers u u' v) {F : Sd38.inT → Option Sd38.outT} (h : ∀ x, cloF dtab (ofL Ed39) 7 Sd38 oad38 2 (opAt oad38 1) (Code.at' [1] bodyd38) .none v x = F x) : CallsDL Go.Proofs.Try.prog 38 Sd38 u u' F :=
  clo_callsDL cd38 (fn := Go.Proofs.Try.f38) (id := 0) (ops := oad38) (rest := Code.at' [1] bodyd38) (ann := .none) (t0 := 2) (v := v) (o0 := opAt oad38 0) (o1 := opAt oad38 1) (by kernel_rfl) (by kernel_rfl) (by kernel_rfl) (by kernel_rfl) (by kernel_rfl) (by kernel_rfl) (by kernel_rfl) (by kernel_rfl) (by kernel_rfl) (fun a w => by kernel_rfl) (by kernel_rfl) (by kernel_rfl) (by kernel_rfl)
    noCuts hu h
theorem okd38 : CloOk Go.Proofs.Try.prog 38 Sd38 79 FRd38 FPd38 := ⟨clod38 (.inl ⟨rfl, rfl, rfl⟩) eqRd38, fun n => clod38 (.inr ⟨rfl, rfl⟩) (eqPd38 n)⟩

abbrev Sd11 : FL := ⟨⟨[], [.env 0 (.c (.fz (.int .u8)))], []⟩, 1, [(.ret, ⟨[], [.env 0 (.dat .item), .env 1 (.c (.int .i64))], []⟩)], [.cell 2 25, .cell 3 26], true⟩
noncomputable def bodyd11 : Code := (Go.Proofs.Try.f11.body).getD .skip
noncomputable def oad11 : Array Oper := opsOf (Code.at' [1, 0] bodyd11)
theorem atd11 : bodyd11 = .seq (Code.at' [0] bodyd11) (.seq (.region 1 oad11 false) (Code.at' [1, 1] bodyd11)) := by kernel_rfl
abbrev SMd11 : FL := ⟨⟨[(2, .ptr 1000001 0 3), (3, .ptr 1000000 0 1)], [.env 0 (.c (.fz (.int .u8))), .reg 1000000 (.cells [.int .i64]), .reg 1000001 (.cells [.int .u8, .fz (.int .u8), .fz .item])], [(1000000, .env 3 0), (1000001, .env 2 0)]⟩, 4, [(.ret, ⟨[], [.env 0 (.dat .item), .env 1 (.c (.int .i64))], []⟩)], [.cell 2 25, .cell 3 26], true⟩
noncomputable def cd11 : Ctx Go.Proofs.Try.prog := ⟨dtab, ofL Ed40, dtabOk, Ed40_ok, ddep, dord⟩
noncomputable def FMd11 : List Int × Int × (Int × List Int × List Tree) → Option (Tree × Int) := fun (b, e, i) =>
    if (decide ((b.length : Int) > 65536)) = true then some (Tree.node 0 [] [], 121)
    else (Fd40 (b, 1)).bind fun
      | .inr (n, _) => (FPd38 n (e, i)).bind fun (e', t, bb, k) => some (Tree.node t bb k, e')
      | .inl (it, rest) =>
        if (decide ((rest.length : Int) > 0)) = true then
          (Fd41 126).bind fun (n, _) => (FPd38 n (e, it.tag, it.body, it.kids)).bind fun (e', t, bb, k) => some (Tree.node t bb k, e')
        else some (Tree.node it.tag it.body it.kids, 0)
noncomputable def Fd11 : List Int → Option (Tree × Int) := fun (b : List Int) => (FMd11 (b, 0, (0, [], []))).bind fun (i, e) => some (Tree.node i.tag i.body i.kids, e)
theorem eqMd11 : ∀ x, exec dtab (ofL Ed40) 23 (Code.at' [1, 1] bodyd11) .none (finD dtab SMd11 [3, 2] (SMd11.inp.enc x) (funEntL Sd38 false FRd38) 79 (fun n => funEntL Sd38 false (FPd38 n))) (SMd11.inp.enc x) = FMd11 x := by
  rintro ⟨b, e, i⟩
  kernel_rfl
theorem eqd11 : ∀ x, deferF dtab (ofL Ed40) 23 (Code.at' [0] bodyd11) .none Sd11 SMd11 [0, 2, 3] 5 FMd11 x = Fd11 x := by
  intro b
  kernel_rfl
theorem callsd11 : CallsL Go.Proofs.Try.prog 11 Sd11 Fd11 :=
  defer_callsL cd11 (fn := Go.Proofs.Try.f11) (fnc := Go.Proofs.Try.f38) (A := Code.at' [0] bodyd11) (rest := Code.at' [1, 1] bodyd11) (id := 1) (ops := oad11) (cc := bodyd38) (o0 := opAt oad11 0) (o1 := opAt oad11 1) (tc := 5) (pt := 79) (cs := [3, 2]) (kn := [0, 2, 3]) (SM := SMd11) (SC := Sd38) (annA := .none) (ann := .none) (FR := FRd38) (FPn := FPd38) (FM := FMd11)
    (by kernel_rfl) (by kernel_rfl) (by kernel_rfl) (by kernel_rfl) (by kernel_rfl) (by kernel_rfl) (by kernel_rfl) (by kernel_rfl) (by kernel_rfl) (by kernel_rfl)
    (fun a w => by kernel_rfl) (fun a w vs h => defer_run (o := opAt oad11 1) (ats := #[]) (by kernel_rfl) h)
    (by kernel_rfl) (by kernel_rfl) (by kernel_rfl) (by kernel_rfl) okd38 (by kernel_rfl) (by kernel_rfl) (by kernel_rfl) (by kernel_rfl) (by kernel_rfl) (by kernel_rfl) (by kernel_rfl)
    noCuts noCuts eqMd11 eqd11
theorem entd11 : EntOk Go.Proofs.Try.prog 11 (funEntL Sd11 true Fd11) := fun_okL (fn := Go.Proofs.Try.f11) (c := bodyd11) (by kernel_rfl) (by kernel_rfl) (by kernel_rfl) (by kernel_rfl) callsd11

noncomputable def Ed11 : List (Nat × Ent) := (11, funEntL Sd11 true Fd11) :: Ed40
theorem Ed11_ok : EntsOk Go.Proofs.Try.prog (ofL Ed11) := .cons entd11 Ed40_ok

/-! ### barbican/barbicanref12.Same -/
noncomputable def bodyd12 : Code := (Go.Proofs.Try.f12.body).getD .skip
abbrev Sd12 : FL := ⟨⟨[], [.env 0 (.dat .item), .env 1 (.dat .item)], []⟩, 2, [(.ret, ⟨[], [.env 0 (.c (.bool))], []⟩)], [.tmp 4], false⟩
noncomputable def cd12 (G : Sd12.inT → Option Sd12.outT) (hG : CallsL Go.Proofs.Try.prog 12 Sd12 G) : Ctx Go.Proofs.Try.prog := ⟨dtab, ofL ((12, funEntL Sd12 true G) :: Ed11), dtabOk, .cons (fun_okL (fn := Go.Proofs.Try.f12) (c := bodyd12) (by kernel_rfl) (by kernel_rfl) (by kernel_rfl) (by kernel_rfl) hG) Ed11_ok, ddep, dord⟩
abbrev ld12_0 : Lay := ⟨[(2, .ptr 2 0 3), (3, .ptr 3 0 3)], [.env 5 (.c (.int .i64)), .reg 2 (.cells [.int .u8, .fz (.int .u8), .fz .item]), .reg 3 (.cells [.int .u8, .fz (.int .u8), .fz .item])], [(2, .env 2 0), (3, .env 3 0)]⟩
abbrev od12_0 : List (AExit × Lay) := [(.ret, ⟨[], [.env 4 (.c (.bool))], []⟩), (.exit 0, ⟨[(2, .ptr 2 0 3), (3, .ptr 3 0 3)], [.reg 2 (.cells [.int .u8, .fz (.int .u8), .fz .item]), .reg 3 (.cells [.int .u8, .fz (.int .u8), .fz .item])], [(2, .env 2 0), (3, .env 3 0)]⟩)]
noncomputable def stepd12_0 (G : Tree × Tree → Option ((Bool))) : Int × (Int × (List Int) × (List Tree)) × (Int × (List Int) × (List Tree)) → Option ((Int × (Int × (List Int) × (List Tree)) × (Int × (List Int) × (List Tree))) ⊕ ((Bool) ⊕ ((Int × (List Int) × (List Tree)) × (Int × (List Int) × (List Tree)))))
  | (t5, r2, r3) =>
  if (decide (t5 < (r2.2.1.length : Int))) = true then
   if (0 : Int) ≤ t5 ∧ t5 < (r2.2.1.length : Int) then
    if (0 : Int) ≤ t5 ∧ t5 < (r3.2.1.length : Int) then
     if ((r2.2.1.getD t5.toNat 0) != (r3.2.1.getD t5.toNat 0)) = true then
      some (.inr (.inl false))
     else
      some (.inl ((IntKind.i64.wrap (t5 + 1)), (r2.1, r2.2.1, r2.2.2), (r3.1, r3.2.1, r3.2.2)))
    else none
   else none
  else
   some (.inr (.inr ((r2.1, r2.2.1, r2.2.2), (r3.1, r3.2.1, r3.2.2))))

noncomputable def annd12_0 (G : Tree × Tree → Option ((Bool))) : Ann := .none
abbrev ld12_1 : Lay := ⟨[(2, .ptr 2 0 3), (3, .ptr 3 0 3)], [.env 6 (.c (.int .i64)), .reg 2 (.cells [.int .u8, .fz (.int .u8), .fz .item]), .reg 3 (.cells [.int .u8, .fz (.int .u8), .fz .item])], [(2, .env 2 0), (3, .env 3 0)]⟩
abbrev od12_1 : List (AExit × Lay) := [(.ret, ⟨[], [.env 4 (.c (.bool))], []⟩), (.exit 2, ⟨[], [], []⟩)]
noncomputable def stepd12_1 (G : Tree × Tree → Option ((Bool))) : Int × (Int × (List Int) × (List Tree)) × (Int × (List Int) × (List Tree)) → Option ((Int × (Int × (List Int) × (List Tree)) × (Int × (List Int) × (List Tree))) ⊕ ((Bool) ⊕ (Unit)))
  | (t6, r2, r3) =>
  if (decide (t6 < (r2.2.2.length : Int))) = true then
   if (0 : Int) ≤ t6 ∧ t6 < (r2.2.2.length : Int) then
    if (0 : Int) ≤ t6 ∧ t6 < (r3.2.2.length : Int) then
     (G ((Tree.node (r2.2.2.getD t6.toNat (DT.dflt .item)).tag (r2.2.2.getD t6.toNat (DT.dflt .item)).body (r2.2.2.getD t6.toNat (DT.dflt .item)).kids), (Tree.node (r3.2.2.getD t6.toNat (DT.dflt .item)).tag (r3.2.2.getD t6.toNat (DT.dflt .item)).body (r3.2.2.getD t6.toNat (DT.dflt .item)).kids))).bind fun y4 =>
      if (!y4) = true then
       some (.inr (.inl false))
      else
       some (.inl ((IntKind.i64.wrap (t6 + 1)), (r2.1, r2.2.1, r2.2.2), (r3.1, r3.2.1, r3.2.2)))
    else none
   else none
  else
   some (.inr (.inr ()))

noncomputable def annd12_1 (G : Tree × Tree → Option ((Bool))) : Ann := .none
noncomputable def Bd12 (G : Tree × Tree → Option ((Bool))) : Tree × Tree → Option ((Bool))
  | (a0, a1) =>
  if (a0.tag != a1.tag) = false then
   if ((a0.body.length : Int) != (a1.body.length : Int)) = false then
    if ((a0.kids.length : Int) != (a1.kids.length : Int)) = true then
     some false
    else
     (loopO (stepd12_0 G) (0, (a0.tag, a0.body, a0.kids), (a1.tag, a1.body, a1.kids))).bind fun
      | (.inl z1) =>
       some z1
      | (.inr (z2, z3)) =>
       (loopO (stepd12_1 G) (0, (z2.1, z2.2.1, z2.2.2), (z3.1, z3.2.1, z3.2.2))).bind fun
        | (.inl z5) =>
         some z5
        | (.inr _) =>
         some true
   else
    some false
  else
   some false

noncomputable def annd12 (G : Tree × Tree → Option ((Bool))) : Ann := (.seq .none (.seq .none (.seq (.seq .none (.seq (.cut (cutEnt ld12_0 od12_0 (loopO (stepd12_0 G)))) .none)) (.seq (.seq .none (.seq (.cut (cutEnt ld12_1 od12_1 (loopO (stepd12_1 G)))) .none)) .none))))
theorem eqd12_0 (G : Sd12.inT → Option Sd12.outT) (hG : CallsL Go.Proofs.Try.prog 12 Sd12 G) : ∀ s : ld12_0.T, exec dtab (ofL ((12, funEntL Sd12 true G) :: Ed11)) 69 (Code.at' [1, 1, 0, 1, 0, 0] bodyd12) (annd12_0 G) (fun e st => loopEnd (l := ld12_0) (outs := od12_0) e st) (ld12_0.enc s) = stepd12_0 G s := by
  rintro ⟨t5, r2, r3⟩
  kernel_rfl
theorem okd12_0 (G : Sd12.inT → Option Sd12.outT) (hG : CallsL Go.Proofs.Try.prog 12 Sd12 G) : LOk Go.Proofs.Try.prog 69 (cutEnt ld12_0 od12_0 (loopO (stepd12_0 G))) (Code.at' [1, 1, 0, 1, 0] bodyd12) := by
  have e : Code.at' [1, 1, 0, 1, 0] bodyd12 = .loop (Code.at' [1, 1, 0, 1, 0, 0] bodyd12) := by kernel_rfl
  rw [e]
  refine loop_ok (cd12 G hG) 69 rfl rfl (annOk_of_cuts ?_) (eqd12_0 G hG)
  intro x hx
  exact absurd hx (by show x ∉ ([] : List (List Nat × LEnt)); simp)

theorem eqd12_1 (G : Sd12.inT → Option Sd12.outT) (hG : CallsL Go.Proofs.Try.prog 12 Sd12 G) : ∀ s : ld12_1.T, exec dtab (ofL ((12, funEntL Sd12 true G) :: Ed11)) 69 (Code.at' [1, 1, 1, 0, 1, 0, 0] bodyd12) (annd12_1 G) (fun e st => loopEnd (l := ld12_1) (outs := od12_1) e st) (ld12_1.enc s) = stepd12_1 G s := by
  rintro ⟨t6, r2, r3⟩
  kernel_rfl
theorem okd12_1 (G : Sd12.inT → Option Sd12.outT) (hG : CallsL Go.Proofs.Try.prog 12 Sd12 G) : LOk Go.Proofs.Try.prog 69 (cutEnt ld12_1 od12_1 (loopO (stepd12_1 G))) (Code.at' [1, 1, 1, 0, 1, 0] bodyd12) := by
  have e : Code.at' [1, 1, 1, 0, 1, 0] bodyd12 = .loop (Code.at' [1, 1, 1, 0, 1, 0, 0] bodyd12) := by kernel_rfl
  rw [e]
  refine loop_ok (cd12 G hG) 69 rfl rfl (annOk_of_cuts ?_) (eqd12_1 G hG)
  intro x hx
  exact absurd hx (by show x ∉ ([] : List (List Nat × LEnt)); simp)

theorem eqd12 (G : Sd12.inT → Option Sd12.outT) (hG : CallsL Go.Proofs.Try.prog 12 Sd12 G) : ∀ x : Sd12.inT, exec dtab (ofL ((12, funEntL Sd12 true G) :: Ed11)) 69 bodyd12 (annd12 G) (finL dtab Sd12) (Sd12.inp.enc x) = Bd12 G x := by
  rintro ⟨a0, a1⟩
  kernel_rfl
theorem bcallsd12 (G : Sd12.inT → Option Sd12.outT) (hG : CallsL Go.Proofs.Try.prog 12 Sd12 G) : CallsL Go.Proofs.Try.prog 12 Sd12 (Bd12 G) := by
  refine fun_callsL (fn := Go.Proofs.Try.f12) (c := bodyd12) (ann := (annd12 G)) (cd12 G hG) (by kernel_rfl) (by kernel_rfl) (by kernel_rfl) (by kernel_rfl) (by kernel_rfl) (annOk_of_cuts ?_) (eqd12 G hG)
  have hc : Ann.cuts (annd12 G) = [([1, 1, 0, 1, 0], (cutEnt ld12_0 od12_0 (loopO (stepd12_0 G)))), ([1, 1, 1, 0, 1, 0], (cutEnt ld12_1 od12_1 (loopO (stepd12_1 G))))] := by kernel_rfl
  rw [hc]
  intro x hx
  simp only [List.mem_cons, List.not_mem_nil, or_false] at hx
  rcases hx with rfl | rfl
  · have e : Code.at' [1, 1, 0, 1, 0] bodyd12 = Code.at' [1, 1, 0, 1, 0] bodyd12 := by kernel_rfl
    rw [e]; exact okd12_0 G hG
  · have e : Code.at' [1, 1, 1, 0, 1, 0] bodyd12 = Code.at' [1, 1, 1, 0, 1, 0] bodyd12 := by kernel_rfl
    rw [e]; exact okd12_1 G hG

noncomputable def FRd12 : Nat → Tree × Tree → Option ((Bool))
  | 0 => fun _ => none
  | k + 1 => Bd12 (FRd12 k)
theorem rcallsd12 : ∀ k, CallsL Go.Proofs.Try.prog 12 Sd12 (FRd12 k)
  | 0 => fun _ _ _ _ _ _ _ _ h => by cases h
  | k + 1 => bcallsd12 (FRd12 k) (rcallsd12 k)
noncomputable def Fd12 (x : Tree × Tree) : Option ((Bool)) := FRd12 (Tree.rank x.1 + 1) x
theorem callsd12 : CallsL Go.Proofs.Try.prog 12 Sd12 Fd12 := fun us x y w fp β h1 h2 h3 h4 => rcallsd12 _ us x y w fp β h1 h2 h3 h4
theorem entd12 : EntOk Go.Proofs.Try.prog 12 (funEntL Sd12 true Fd12) := fun_okL (fn := Go.Proofs.Try.f12) (c := bodyd12) (by kernel_rfl) (by kernel_rfl) (by kernel_rfl) (by kernel_rfl) callsd12
noncomputable def Ed12 : List (Nat × Ent) := (12, (funEntL Sd12 true Fd12)) :: Ed11
theorem Ed12_ok : EntsOk Go.Proofs.Try.prog (ofL Ed12) := .cons entd12 Ed11_ok

/-! ### barbican/barbicanref01.Same -/
noncomputable def bodyd14 : Code := (Go.Proofs.Try.f14.body).getD .skip
abbrev Sd14 : FL := ⟨⟨[], [.env 0 (.c (.fz (.int .u8))), .env 1 (.c (.fz (.int .u8)))], []⟩, 2, [(.ret, ⟨[], [.env 0 (.c (.bool))], []⟩)], [.tmp 4], false⟩
noncomputable def cd14 : Ctx Go.Proofs.Try.prog := ⟨dtab, ofL Ed12, dtabOk, Ed12_ok, ddep, dord⟩
abbrev ld14_0 : Lay := ⟨[], [.env 0 (.c (.fz (.int .u8))), .env 1 (.c (.fz (.int .u8))), .env 5 (.c (.int .i64))], []⟩
abbrev od14_0 : List (AExit × Lay) := [(.ret, ⟨[], [.env 4 (.c (.bool))], []⟩), (.exit 0, ⟨[], [], []⟩)]
noncomputable def stepd14_0 : (List Int) × (List Int) × Int → Option (((List Int) × (List Int) × Int) ⊕ ((Bool) ⊕ (Unit)))
  | (t0, t1, t5) =>
  if (decide (t5 < (t0.length : Int))) = true then
   if (0 : Int) ≤ t5 ∧ t5 < (t0.length : Int) then
    if (0 : Int) ≤ t5 ∧ t5 < (t1.length : Int) then
     if ((t0.getD t5.toNat 0) != (t1.getD t5.toNat 0)) = true then
      some (.inr (.inl false))
     else
      some (.inl (t0, t1, (IntKind.i64.wrap (t5 + 1))))
    else none
   else none
  else
   some (.inr (.inr ()))

noncomputable def annd14_0 : Ann := .none
noncomputable def Fd14 : (List Int) × (List Int) → Option ((Bool))
  | (a0, a1) =>
  if ((a0.length : Int) != (a1.length : Int)) = true then
   some false
  else
   (loopO stepd14_0 (a0, a1, 0)).bind fun
    | (.inl z1) =>
     some z1
    | (.inr _) =>
     some true

noncomputable def annd14 : Ann := (.seq .none (.seq .none (.seq (.seq .none (.seq (.cut (cutEnt ld14_0 od14_0 (loopO (stepd14_0)))) .none)) .none)))
theorem eqd14_0 : ∀ s : ld14_0.T, exec dtab (ofL Ed12) 26 (Code.at' [1, 1, 0, 1, 0, 0] bodyd14) annd14_0 (fun e st => loopEnd (l := ld14_0) (outs := od14_0) e st) (ld14_0.enc s) = stepd14_0 s := by
  rintro ⟨t0, t1, t5⟩
  kernel_rfl
theorem okd14_0 : LOk Go.Proofs.Try.prog 26 (cutEnt ld14_0 od14_0 (loopO stepd14_0)) (Code.at' [1, 1, 0, 1, 0] bodyd14) := by
  have e : Code.at' [1, 1, 0, 1, 0] bodyd14 = .loop (Code.at' [1, 1, 0, 1, 0, 0] bodyd14) := by kernel_rfl
  rw [e]
  refine loop_ok cd14 26 rfl rfl (annOk_of_cuts ?_) eqd14_0
  intro x hx
  exact absurd hx (by show x ∉ ([] : List (List Nat × LEnt)); simp)

theorem eqd14 : ∀ x : Sd14.inT, exec dtab (ofL Ed12) 26 bodyd14 annd14 (finL dtab Sd14) (Sd14.inp.enc x) = Fd14 x := by
  rintro ⟨a0, a1⟩
  kernel_rfl
theorem callsd14 : CallsL Go.Proofs.Try.prog 14 Sd14 Fd14 := by
  refine fun_callsL (fn := Go.Proofs.Try.f14) (c := bodyd14) (ann := annd14) cd14 (by kernel_rfl) (by kernel_rfl) (by kernel_rfl) (by kernel_rfl) (by kernel_rfl) (annOk_of_cuts ?_) eqd14
  have hc : Ann.cuts annd14 = [([1, 1, 0, 1, 0], (cutEnt ld14_0 od14_0 (loopO (stepd14_0))))] := by kernel_rfl
  rw [hc]
  intro x hx
  simp only [List.mem_cons, List.not_mem_nil, or_false] at hx
  rcases hx with rfl
  · have e : Code.at' [1, 1, 0, 1, 0] bodyd14 = Code.at' [1, 1, 0, 1, 0] bodyd14 := by kernel_rfl
    rw [e]; exact okd14_0

theorem entd14 : EntOk Go.Proofs.Try.prog 14 (funEntL Sd14 true Fd14) := fun_okL (fn := Go.Proofs.Try.f14) (c := bodyd14) (by kernel_rfl) (by kernel_rfl) (by kernel_rfl) (by kernel_rfl) callsd14
noncomputable def Ed14 : List (Nat × Ent) := (14, (funEntL Sd14 true Fd14)) :: Ed12
theorem Ed14_ok : EntsOk Go.Proofs.Try.prog (ofL Ed14) := .cons entd14 Ed12_ok

/-! ### barbican/barbicanlaw12.alive -/
noncomputable def bodyd15 : Code := (Go.Proofs.Try.f15.body).getD .skip
abbrev Sd15 : FL := ⟨⟨[], [], []⟩, 0, [(.ret, ⟨[], [.env 0 (.c (.bool))], []⟩)], [.tmp 0], false⟩
noncomputable def cd15 : Ctx Go.Proofs.Try.prog := ⟨dtab, ofL Ed14, dtabOk, Ed14_ok, ddep, dord⟩
noncomputable def Fd15 : Unit → Option ((Bool))
  | _ =>
  let f1 : List Int := ((((((List.replicate 5 (0 : Int)).set 0 48).set 1 3).set 2 2).set 3 1).set 4 5)
  (Fd11 f1).bind fun (y2, y3) =>
   (Fd11 (((List.replicate 2 (0 : Int)).set 0 4).set 1 128)).bind fun (y4, y5) =>
    if (y3 == 0) = true then
     if (y2.tag == 48) = true then
      if ((y2.kids.length : Int) == 1) = true then
       some (y5 == 124)
      else
       some false
     else
      some false
    else
     some false

noncomputable def annd15 : Ann := .none
theorem eqd15 : ∀ x : Sd15.inT, exec dtab (ofL Ed14) 32 bodyd15 annd15 (finL dtab Sd15) (Sd15.inp.enc x) = Fd15 x := by
  intro x
  kernel_rfl
theorem callsd15 : CallsL Go.Proofs.Try.prog 15 Sd15 Fd15 := by
  refine fun_callsL (fn := Go.Proofs.Try.f15) (c := bodyd15) (ann := annd15) cd15 (by kernel_rfl) (by kernel_rfl) (by kernel_rfl) (by kernel_rfl) (by kernel_rfl) (annOk_of_cuts ?_) eqd15
  intro x hx
  exact absurd hx (by show x ∉ ([] : List (List Nat × LEnt)); simp)

theorem entd15 : EntOk Go.Proofs.Try.prog 15 (funEntL Sd15 true Fd15) := fun_okL (fn := Go.Proofs.Try.f15) (c := bodyd15) (by kernel_rfl) (by kernel_rfl) (by kernel_rfl) (by kernel_rfl) callsd15
noncomputable def Ed15 : List (Nat × Ent) := (15, (funEntL Sd15 true Fd15)) :: Ed14
theorem Ed15_ok : EntsOk Go.Proofs.Try.prog (ofL Ed15) := .cons entd15 Ed14_ok

/-! ### (*barbican/der.reader).item -/
noncomputable def bodyd40o : Code := (Go.Proofs.Try.f40.body).getD .skip
abbrev Sd40o : FL := ⟨⟨[(0, .ptr 1000000 0 1)], [.reg 1000000 (.cells [.fz (.int .u8)]), .env 1 (.c (.int .i64))], [(1000000, .env 0 0)]⟩, 2, [(.ret, ⟨[], [.env 0 (.agg [.int .u8, .full 1, .full 2]), .reg 1 (.row 5 .u8), .reg 2 (.deep 25 5), .reg 1000000 (.cells [.fz (.int .u8)])], [(1, .env 0 1), (2, .env 0 2)]⟩), (.panic 79 0, ⟨[], [], []⟩)], [.cell 4 25], true⟩
noncomputable def cd40o (G : Sd40o.inT → Option Sd40o.outT) (hG : CallsL Go.Proofs.Try.prog 40 Sd40o G) : Ctx Go.Proofs.Try.prog := ⟨dtab, ofL ((40, funEntL Sd40o true G) :: Ed15), dtabOk, .cons (fun_okL (fn := Go.Proofs.Try.f40) (c := bodyd40o) (by kernel_rfl) (by kernel_rfl) (by kernel_rfl) (by kernel_rfl) hG) Ed15_ok, ddep, dord⟩
abbrev ld40o_0 : Lay := ⟨[(4, .ptr 4 0 3), (5, .ptr 5 0 3), (7, .ptr 33 0 1)], [.env 1 (.c (.int .i64)), .reg 4 (.cells [.int .u8, .nils, .nils]), .reg 5 (.cells [.int .u8, .nils, .full 600322]), .reg 600322 (.deep 25 5), .reg 33 (.cells [.fz (.int .u8)]), .reg 1000000 (.cells [.fz (.int .u8)])], [(4, .env 4 0), (5, .env 5 0), (33, .env 7 0), (600322, .reg 5 2)]⟩
abbrev od40o_0 : List (AExit × Lay) := [(.panic 79 0, ⟨[], [], []⟩), (.exit 0, ⟨[(4, .ptr 4 0 3), (5, .ptr 5 0 3)], [.reg 4 (.cells [.int .u8, .nils, .nils]), .reg 5 (.cells [.int .u8, .nils, .full 600322]), .reg 600322 (.deep 25 5), .reg 1000000 (.cells [.fz (.int .u8)])], [(4, .env 4 0), (5, .env 5 0), (600322, .reg 5 2)]⟩)]
noncomputable def stepd40o_0 (G : (List Int) × Int → Option (((Int × Unit × Unit) × List Int × List Tree × (List Int)) ⊕ (Int × (Unit)))) : Int × (Int × Unit × Unit) × (Int × Unit × Unit) × List Tree × (List Int) × (List Int) → Option ((Int × (Int × Unit × Unit) × (Int × Unit × Unit) × List Tree × (List Int) × (List Int)) ⊕ ((Int × (Unit)) ⊕ ((Int × Unit × Unit) × (Int × Unit × Unit) × List Tree × (List Int))))
  | (t1, r4, r5, r600322, r33, r1000000) =>
  if (decide ((r33.length : Int) > 0)) = true then
   (G (r33, (IntKind.i64.wrap (t1 + 1)))).bind fun
    | (.inl (y14, y15, y16, y17)) =>
     if okBytes (r600322.length + ([Tree.node y14.1 y15 y16] : List Tree).length) 56 then
      some (.inl (t1, (r4.1, (), ()), (r5.1, (), ()), (r600322 ++ ([Tree.node y14.1 y15 y16] : List Tree)), y17, r1000000))
     else none
    | (.inr (e18, _)) =>
     some (.inr (.inl (e18, ())))
  else
   some (.inr (.inr ((r4.1, (), ()), (r5.1, (), ()), r600322, r1000000)))

noncomputable def annd40o_0 (G : (List Int) × Int → Option (((Int × Unit × Unit) × List Int × List Tree × (List Int)) ⊕ (Int × (Unit)))) : Ann := .none
noncomputable def Bd40o (G : (List Int) × Int → Option (((Int × Unit × Unit) × List Int × List Tree × (List Int)) ⊕ (Int × (Unit)))) : (List Int) × Int → Option (((Int × Unit × Unit) × List Int × List Tree × (List Int)) ⊕ (Int × (Unit)))
  | (io, a1) =>
  if (decide (a1 > 16)) = true then
   (Fd41 125).bind fun (e1, _) =>
    some (.inr (e1, ()))
  else
   (Fd55 io).bind fun
    | (.inl (e2, _)) =>
     some (.inr (e2, ()))
    | (.inr (y3, y4)) =>
     if ((bitsAnd .u8 y3 31) == 31) = true then
      (Fd41 123).bind fun (e5, _) =>
       some (.inr (e5, ()))
     else
      (Fd57 y4).bind fun
       | (.inl (e6, _)) =>
        some (.inr (e6, ()))
       | (.inr (y7, y8)) =>
        (Fd56 (y8, y7)).bind fun
         | (.inl (e9, _)) =>
          some (.inr (e9, ()))
         | (.inr (y10, y11)) =>
          (Fd58 y3).bind fun y12 =>
           if (!y12) = true then
            (Fd44 y10).bind fun y13 =>
             some (.inl ((y3, (), ()), y13, ([] : List Tree), y11))
           else
            (loopO (stepd40o_0 G) (a1, (0, (), ()), (y3, (), ()), ([] : List Tree), y10, y11)).bind fun
             | (.inl (e19, _)) =>
              some (.inr (e19, ()))
             | (.inr (z20, z21, z22, z23)) =>
              some (.inl ((z21.1, (), ()), ([] : List Int), z22, z23))

noncomputable def annd40o (G : (List Int) × Int → Option (((Int × Unit × Unit) × List Int × List Tree × (List Int)) ⊕ (Int × (Unit)))) : Ann := (.seq .none (.seq .none (.seq .none (.seq .none (.seq .none (.seq .none (.seq (.seq .none (.seq (.cut (cutEnt ld40o_0 od40o_0 (loopO (stepd40o_0 G)))) .none)) .none)))))))
theorem eqd40o_0 (G : Sd40o.inT → Option Sd40o.outT) (hG : CallsL Go.Proofs.Try.prog 40 Sd40o G) : ∀ s : ld40o_0.T, exec dtab (ofL ((40, funEntL Sd40o true G) :: Ed15)) 50 (Code.at' [1, 1, 1, 1, 1, 1, 0, 1, 0, 0] bodyd40o) (annd40o_0 G) (fun e st => loopEnd (l := ld40o_0) (outs := od40o_0) e st) (ld40o_0.enc s) = stepd40o_0 G s := by
  rintro ⟨t1, r4, r5, r600322, r33, r1000000⟩
  kernel_rfl
theorem okd40o_0 (G : Sd40o.inT → Option Sd40o.outT) (hG : CallsL Go.Proofs.Try.prog 40 Sd40o G) : LOk Go.Proofs.Try.prog 50 (cutEnt ld40o_0 od40o_0 (loopO (stepd40o_0 G))) (Code.at' [1, 1, 1, 1, 1, 1, 0, 1, 0] bodyd40o) := by
  have e : Code.at' [1, 1, 1, 1, 1, 1, 0, 1, 0] bodyd40o = .loop (Code.at' [1, 1, 1, 1, 1, 1, 0, 1, 0, 0] bodyd40o) := by kernel_rfl
  rw [e]
  refine loop_ok (cd40o G hG) 50 rfl rfl (annOk_of_cuts ?_) (eqd40o_0 G hG)
  intro x hx
  exact absurd hx (by show x ∉ ([] : List (List Nat × LEnt)); simp)

theorem eqd40o (G : Sd40o.inT → Option Sd40o.outT) (hG : CallsL Go.Proofs.Try.prog 40 Sd40o G) : ∀ x : Sd40o.inT, exec dtab (ofL ((40, funEntL Sd40o true G) :: Ed15)) 50 bodyd40o (annd40o G) (finL dtab Sd40o) (Sd40o.inp.enc x) = Bd40o G x := by
  rintro ⟨io, a1⟩
  kernel_rfl
theorem bcallsd40o (G : Sd40o.inT → Option Sd40o.outT) (hG : CallsL Go.Proofs.Try.prog 40 Sd40o G) : CallsL Go.Proofs.Try.prog 40 Sd40o (Bd40o G) := by
  refine fun_callsL (fn := Go.Proofs.Try.f40) (c := bodyd40o) (ann := (annd40o G)) (cd40o G hG) (by kernel_rfl) (by kernel_rfl) (by kernel_rfl) (by kernel_rfl) (by kernel_rfl) (annOk_of_cuts ?_) (eqd40o G hG)
  have hc : Ann.cuts (annd40o G) = [([1, 1, 1, 1, 1, 1, 0, 1, 0], (cutEnt ld40o_0 od40o_0 (loopO (stepd40o_0 G))))] := by kernel_rfl
  rw [hc]
  intro x hx
  simp only [List.mem_cons, List.not_mem_nil, or_false] at hx
  rcases hx with rfl
  · have e : Code.at' [1, 1, 1, 1, 1, 1, 0, 1, 0] bodyd40o = Code.at' [1, 1, 1, 1, 1, 1, 0, 1, 0] bodyd40o := by kernel_rfl
    rw [e]; exact okd40o_0 G hG

noncomputable def FRd40o : Nat → (List Int) × Int → Option (((Int × Unit × Unit) × List Int × List Tree × (List Int)) ⊕ (Int × (Unit)))
  | 0 => fun _ => none
  | k + 1 => Bd40o (FRd40o k)
theorem rcallsd40o : ∀ k, CallsL Go.Proofs.Try.prog 40 Sd40o (FRd40o k)
  | 0 => fun _ _ _ _ _ _ _ _ h => by cases h
  | k + 1 => bcallsd40o (FRd40o k) (rcallsd40o k)
noncomputable def Fd40o (x : (List Int) × Int) : Option (((Int × Unit × Unit) × List Int × List Tree × (List Int)) ⊕ (Int × (Unit))) := FRd40o (20) x
theorem callsd40o : CallsL Go.Proofs.Try.prog 40 Sd40o Fd40o := fun us x y w fp β h1 h2 h3 h4 => rcallsd40o _ us x y w fp β h1 h2 h3 h4
theorem entd40o : EntOk Go.Proofs.Try.prog 40 (funEntL Sd40o true Fd40o) := fun_okL (fn := Go.Proofs.Try.f40) (c := bodyd40o) (by kernel_rfl) (by kernel_rfl) (by kernel_rfl) (by kernel_rfl) callsd40o
noncomputable def Ed40o : List (Nat × Ent) := (40, (funEntL Sd40o true Fd40o)) :: Ed15
theorem Ed40o_ok : EntsOk Go.Proofs.Try.prog (ofL Ed40o) := .cons entd40o Ed15_ok

/-! ### barbican/der.Decode -/
/-! ### the closure 38, by hand -/
noncomputable def bodyd38o : Code := (Go.Proofs.Try.f38.body).getD .skip
noncomputable def oad38o : Array Oper := opsOf (Code.at' [0] bodyd38o)
theorem atd38o : bodyd38o = .seq (.region 0 oad38o false) (Code.at' [1] bodyd38o) := by kernel_rfl
abbrev Sd38o : FL := ⟨⟨[(0, .ptr 1000000 0 1), (1, .ptr 1000001 0 3)], [.reg 1000000 (.cells [.int .i64]), .reg 1000001 (.cells [.int .u8, .full 1000002, .full 1000003]), .reg 1000002 (.row 5 .u8), .reg 1000003 (.deep 25 5)], [(1000000, .env 0 0), (1000001, .env 1 0), (1000002, .reg 1000001 1), (1000003, .reg 1000001 2)]⟩, 2, [(.ret, ⟨[], [.reg 1000000 (.cells [.int .i64]), .reg 1000001 (.cells [.int .u8, .full 1000002, .full 1000003]), .reg 1000002 (.row 5 .u8), .reg 1000003 (.deep 25 5)], []⟩), (.ret, ⟨[], [.reg 1000000 (.cells [.int .i64]), .reg 1000001 (.cells [.int .u8, .nils, .nils])], []⟩)], [], false⟩
noncomputable def cd38o : Ctx Go.Proofs.Try.prog := ⟨dtab, ofL Ed39, dtabOk, Ed39_ok, ddep, dord⟩
noncomputable def FRd38o : Int × (Int × Unit × Unit) × List Int × List Tree → Option ((Int × (Int × Unit × Unit) × List Int × List Tree) ⊕ (Int × (Int × Unit × Unit))) := fun (e, c, b, k) => if (e != 0) = true then some (.inr (e, (0, (), ()))) else some (.inl (e, (c.1, (), ()), b, k))
noncomputable def FPd38o (n : Int) : Int × (Int × Unit × Unit) × List Int × List Tree → Option ((Int × (Int × Unit × Unit) × List Int × List Tree) ⊕ (Int × (Int × Unit × Unit))) := fun (e, c, b, k) => if (n != 0) = true then some (.inr (n, (0, (), ()))) else some (.inl (n, (c.1, (), ()), b, k))
theorem eqRd38o : ∀ x, cloF dtab (ofL Ed39) 7 Sd38o oad38o 2 (opAt oad38o 1) (Code.at' [1] bodyd38o) .none .nilIface x = FRd38o x := by
  rintro ⟨e, c, b, k⟩
  kernel_rfl
theorem eqPd38o (n : Int) : ∀ x, cloF dtab (ofL Ed39) 7 Sd38o oad38o 2 (opAt oad38o 1) (Code.at' [1] bodyd38o) .none (.iface 79 (.agg #[.int .i64 n])) x = FPd38o n x := by
  rintro ⟨e, c, b, k⟩
  kernel_rfl
theorem clod38o {u u' : FrameMode} {v : Value} (hu : Recovers u u' v) {F : Sd38o.inT → Option Sd38o.outT} (h : ∀ x, cloF dtab (ofL Ed39) 7 Sd38o oad38o 2 (opAt oad38o 1) (Code.at' [1] bodyd38o) .none v x = F x) : CallsDL Go.Proofs.Try.prog 38 Sd38o u u' F :=
  clo_callsDL cd38o (fn := Go.Proofs.Try.f38) (id := 0) (ops := oad38o) (rest := Code.at' [1] bodyd38o) (ann := .none) (t0 := 2) (v := v) (o0 := opAt oad38o 0) (o1 := opAt oad38o 1) (by kernel_rfl) (by kernel_rfl) (by kernel_rfl) (by kernel_rfl) (by kernel_rfl) (by kernel_rfl) (by kernel_rfl) (by kernel_rfl) (by kernel_rfl) (fun a w => by kernel_rfl) (by kernel_rfl) (by kernel_rfl) (by kernel_rfl)
    noCuts hu h
theorem okd38o : CloOk Go.Proofs.Try.prog 38 Sd38o 79 FRd38o FPd38o := ⟨clod38o (.inl ⟨rfl, rfl, rfl⟩) eqRd38o, fun n => clod38o (.inr ⟨rfl, rfl⟩) (eqPd38o n)⟩

def outd11o : (Int × (Int × Unit × Unit) × List Int × List Tree) ⊕ (Int × (Int × Unit × Unit)) → Option ((Int × Unit × Unit) × Int × List Int × List Tree)
  | .inl (e, c, b, k) => some ((c.1, (), ()), e, b, k)
  | .inr (e, c) => some ((c.1, (), ()), e, [], [])

abbrev Sd11o : FL := ⟨⟨[], [.env 0 (.c (.fz (.int .u8)))], []⟩, 1, [(.ret, ⟨[], [.env 0 (.agg [.int .u8, .full 1, .full 2]), .env 1 (.c (.int .i64)), .reg 1 (.row 5 .u8), .reg 2 (.deep 25 5)], [(1, .env 0 1), (2, .env 0 2)]⟩)], [.cell 2 25, .cell 3 26], false⟩
noncomputable def bodyd11o : Code := (Go.Proofs.Try.f11.body).getD .skip
noncomputable def oad11o : Array Oper := opsOf (Code.at' [1, 0] bodyd11o)
theorem atd11o : bodyd11o = .seq (Code.at' [0] bodyd11o) (.seq (.region 1 oad11o false) (Code.at' [1, 1] bodyd11o)) := by kernel_rfl
abbrev SMd11o : FL := ⟨⟨[(2, .ptr 1000001 0 3), (3, .ptr 1000000 0 1)], [.env 0 (.c (.fz (.int .u8))), .reg 1000000 (.cells [.int .i64]), .reg 1000001 (.cells [.int .u8, .nils, .nils])], [(1000000, .env 3 0), (1000001, .env 2 0)]⟩, 4, [(.ret, ⟨[], [.env 0 (.agg [.int .u8, .full 1, .full 2]), .env 1 (.c (.int .i64)), .reg 1 (.row 5 .u8), .reg 2 (.deep 25 5)], [(1, .env 0 1), (2, .env 0 2)]⟩)], [.cell 2 25, .cell 3 26], false⟩
noncomputable def cd11o : Ctx Go.Proofs.Try.prog := ⟨dtab, ofL Ed40o, dtabOk, Ed40o_ok, ddep, dord⟩
noncomputable def FMd11o : List Int × Int × (Int × Unit × Unit) → Option ((Int × Unit × Unit) × Int × List Int × List Tree) := fun (b, e, i) =>
    if (decide ((b.length : Int) > 65536)) = true then (FRd38o (121, (0, (), ()), [], [])).bind outd11o
    else (Fd40o (b, 1)).bind fun
      | .inr (n, _) => (FPd38o n (e, (i.1, (), ()), [], [])).bind outd11o
      | .inl (c, bb, k, rest) =>
        if (decide ((rest.length : Int) > 0)) = true then
          (Fd41 126).bind fun (n, _) => (FPd38o n (e, (c.1, (), ()), bb, k)).bind outd11o
        else (FRd38o (0, (c.1, (), ()), bb, k)).bind outd11o
noncomputable def Fd11o : List Int → Option ((Int × Unit × Unit) × Int × List Int × List Tree) := fun (b : List Int) => (FMd11o (b, 0, (0, (), ()))).bind fun (c, e, bb, k) => some ((c.1, (), ()), e, bb, k)
theorem eqMd11o : ∀ x, exec dtab (ofL Ed40o) 23 (Code.at' [1, 1] bodyd11o) .none (finD dtab SMd11o [3, 2] (SMd11o.inp.enc x) (funEntL Sd38o false FRd38o) 79 (fun n => funEntL Sd38o false (FPd38o n))) (SMd11o.inp.enc x) = FMd11o x := by
  rintro ⟨b, e, i⟩
  kernel_rfl
theorem eqd11o : ∀ x, deferF dtab (ofL Ed40o) 23 (Code.at' [0] bodyd11o) .none Sd11o SMd11o [0, 2, 3] 5 FMd11o x = Fd11o x := by
  intro b
  kernel_rfl
theorem callsd11o : CallsL Go.Proofs.Try.prog 11 Sd11o Fd11o :=
  defer_callsL cd11o (fn := Go.Proofs.Try.f11) (fnc := Go.Proofs.Try.f38) (A := Code.at' [0] bodyd11o) (rest := Code.at' [1, 1] bodyd11o) (id := 1) (ops := oad11o) (cc := bodyd38o) (o0 := opAt oad11o 0) (o1 := opAt oad11o 1) (tc := 5) (pt := 79) (cs := [3, 2]) (kn := [0, 2, 3]) (SM := SMd11o) (SC := Sd38o) (annA := .none) (ann := .none) (FR := FRd38o) (FPn := FPd38o) (FM := FMd11o)
    (by kernel_rfl) (by kernel_rfl) (by kernel_rfl) (by kernel_rfl) (by kernel_rfl) (by kernel_rfl) (by kernel_rfl) (by kernel_rfl) (by kernel_rfl) (by kernel_rfl)
    (fun a w => by kernel_rfl) (fun a w vs h => defer_run (o := opAt oad11o 1) (ats := #[]) (by kernel_rfl) h)
    (by kernel_rfl) (by kernel_rfl) (by kernel_rfl) (by kernel_rfl) okd38o (by kernel_rfl) (by kernel_rfl) (by kernel_rfl) (by kernel_rfl) (by kernel_rfl) (by kernel_rfl) (by kernel_rfl)
    noCuts noCuts eqMd11o eqd11o
theorem entd11o : EntOk Go.Proofs.Try.prog 11 (funEntL Sd11o true Fd11o) := fun_okL (fn := Go.Proofs.Try.f11) (c := bodyd11o) (by kernel_rfl) (by kernel_rfl) (by kernel_rfl) (by kernel_rfl) callsd11o

noncomputable def Ed11o : List (Nat × Ent) := (11, funEntL Sd11o true Fd11o) :: Ed40o
theorem Ed11o_ok : EntsOk Go.Proofs.Try.prog (ofL Ed11o) := .cons entd11o Ed40o_ok

/-! ### barbican/barbicanlaw12.spoil -/
noncomputable def bodyd13 : Code := (Go.Proofs.Try.f13.body).getD .skip
abbrev Sd13 : FL := ⟨⟨[(0, .ptr 1000000 0 3)], [.reg 1000000 (.part [.int .u8, .full 1000001, .full 1000002]), .reg 1000001 (.row 5 .u8), .reg 1000002 (.deep 25 5)], [(1000000, .env 0 0), (1000001, .reg 1000000 1), (1000002, .reg 1000000 2)]⟩, 1, [(.ret, ⟨[], [.reg 1000000 (.part [.int .u8, .full 1, .full 2]), .reg 1 (.row 5 .u8), .reg 2 (.deep 25 5)], [(1, .reg 1000000 1), (2, .reg 1000000 2)]⟩)], [], false⟩
noncomputable def cd13 (G : Sd13.inT → Option Sd13.outT) (hG : CallsL Go.Proofs.Try.prog 13 Sd13 G) : Ctx Go.Proofs.Try.prog := ⟨dtab, ofL ((13, spoilK 25 5 G) :: Ed11o), dtabOk, .cons (spoilK_ok (e := 25) (eb := 5) (fn := Go.Proofs.Try.f13) (c := bodyd13) (by kernel_rfl) (by kernel_rfl) (by kernel_rfl) hG) Ed11o_ok, ddep, dord⟩
abbrev ld13_0 : Lay := ⟨[(0, .ptr 1000000 0 3)], [.env 2 (.c (.int .i64)), .reg 1000000 (.part [.int .u8, .full 1000001, .full 777]), .reg 1000001 (.row 5 .u8), .reg 777 (.deep 25 5)], [(777, .reg 1000000 2)]⟩
abbrev od13_0 : List (AExit × Lay) := [(.exit 0, ⟨[(0, .ptr 1000000 0 3)], [.reg 1000000 (.part [.int .u8, .full 1000001, .full 777]), .reg 1000001 (.row 5 .u8), .reg 777 (.deep 25 5)], [(777, .reg 1000000 2)]⟩)]
noncomputable def stepd13_0 (G : (Int × Unit × Unit) × List Int × List Tree → Option (((Int × Unit × Unit) × List Int × List Tree))) : Int × (Int × Unit × Unit) × List Int × List Tree → Option ((Int × (Int × Unit × Unit) × List Int × List Tree) ⊕ (((Int × Unit × Unit) × List Int × List Tree)))
  | (t2, r1000000, r1000001, r777) =>
  if (decide (t2 < (r1000001.length : Int))) = true then
   if (0 : Int) ≤ t2 ∧ t2 < (r1000001.length : Int) then
    some (.inl ((IntKind.i64.wrap (t2 + 1)), (r1000000.1, (), ()), (r1000001.set t2.toNat 99), r777))
   else none
  else
   some (.inr ((r1000000.1, (), ()), r1000001, r777))

noncomputable def annd13_0 (G : (Int × Unit × Unit) × List Int × List Tree → Option (((Int × Unit × Unit) × List Int × List Tree))) : Ann := .none
abbrev ld13_1 : Lay := ⟨[(0, .ptr 1000000 0 3)], [.env 3 (.c (.int .i64)), .reg 1000000 (.part [.int .u8, .full 25, .full 777]), .reg 25 (.row 5 .u8), .reg 777 (.deep 25 5)], [(25, .reg 1000000 1), (777, .reg 1000000 2)]⟩
abbrev od13_1 : List (AExit × Lay) := [(.exit 2, ⟨[(0, .ptr 1000000 0 3)], [.reg 1000000 (.part [.int .u8, .full 25, .full 777]), .reg 25 (.row 5 .u8), .reg 777 (.deep 25 5)], [(25, .reg 1000000 1), (777, .reg 1000000 2)]⟩)]
noncomputable def stepd13_1 (G : (Int × Unit × Unit) × List Int × List Tree → Option (((Int × Unit × Unit) × List Int × List Tree))) : Int × (Int × Unit × Unit) × List Int × List Tree → Option ((Int × (Int × Unit × Unit) × List Int × List Tree) ⊕ (((Int × Unit × Unit) × List Int × List Tree)))
  | (t3, r1000000, r25, r777) =>
  if (decide (t3 < (r777.length : Int))) = true then
   if (0 : Int) ≤ t3 ∧ t3 < (r777.length : Int) then
    (G (spX (r777.getD t3.toNat dTree))).bind fun y4 =>
     if (0 : Int) ≤ t3 ∧ t3 < ((r777.set t3.toNat (spY y4)).length : Int) then
      let f5 : List Tree := ((r777.set t3.toNat (spY y4)).set t3.toNat (retag 77 ((r777.set t3.toNat (spY y4)).getD t3.toNat dTree)))
      some (.inl ((IntKind.i64.wrap (t3 + 1)), (r1000000.1, (), ()), r25, f5))
     else none
   else none
  else
   some (.inr ((r1000000.1, (), ()), r25, r777))

noncomputable def annd13_1 (G : (Int × Unit × Unit) × List Int × List Tree → Option (((Int × Unit × Unit) × List Int × List Tree))) : Ann := .none
noncomputable def Bd13 (G : (Int × Unit × Unit) × List Int × List Tree → Option (((Int × Unit × Unit) × List Int × List Tree))) : (Int × Unit × Unit) × List Int × List Tree → Option (((Int × Unit × Unit) × List Int × List Tree))
  | (io, io1, io2) =>
  (loopO (stepd13_0 G) (0, (io.1, (), ()), io1, io2)).bind fun (z1, z2, z3) =>
   if okBytes (z2.length + (((List.replicate 2 (0 : Int)).set 0 99).set 1 99).length) 1 then
    (loopO (stepd13_1 G) (0, (z1.1, (), ()), (z2 ++ (((List.replicate 2 (0 : Int)).set 0 99).set 1 99)), z3)).bind fun (z6, z7, z8) =>
     if okBytes (z8.length + ([Tree.node 0 [] [], Tree.node 0 [] []] : List Tree).length) 56 then
      if (0 : Int) ≤ (z8.length : Int) ∧ (z8.length : Int) < ((z8 ++ ([Tree.node 0 [] [], Tree.node 0 [] []] : List Tree)).length : Int) then
       let f9 : List Tree := ((z8 ++ ([Tree.node 0 [] [], Tree.node 0 [] []] : List Tree)).set (z8.length : Int).toNat (Tree.node 77 [] []))
       if (0 : Int) ≤ (IntKind.i64.wrap ((z8.length : Int) + 1)) ∧ (IntKind.i64.wrap ((z8.length : Int) + 1)) < (f9.length : Int) then
        let f10 : List Tree := (f9.set (IntKind.i64.wrap ((z8.length : Int) + 1)).toNat (Tree.node 77 [] []))
        some ((z6.1, (), ()), z7, f10)
       else none
      else none
     else none
   else none

noncomputable def annd13 (G : (Int × Unit × Unit) × List Int × List Tree → Option (((Int × Unit × Unit) × List Int × List Tree))) : Ann := (.seq (.seq .none (.seq (.cut (cutEnt ld13_0 od13_0 (loopO (stepd13_0 G)))) .none)) (.seq .none (.seq (.seq .none (.seq (.cut (cutEnt ld13_1 od13_1 (loopO (stepd13_1 G)))) .none)) .none)))
theorem eqd13_0 (G : Sd13.inT → Option Sd13.outT) (hG : CallsL Go.Proofs.Try.prog 13 Sd13 G) : ∀ s : ld13_0.T, exec dtab (ofL ((13, spoilK 25 5 G) :: Ed11o)) 65 (Code.at' [0, 1, 0, 0] bodyd13) (annd13_0 G) (fun e st => loopEnd (l := ld13_0) (outs := od13_0) e st) (ld13_0.enc s) = stepd13_0 G s := by
  rintro ⟨t2, r1000000, r1000001, r777⟩
  kernel_rfl
theorem okd13_0 (G : Sd13.inT → Option Sd13.outT) (hG : CallsL Go.Proofs.Try.prog 13 Sd13 G) : LOk Go.Proofs.Try.prog 65 (cutEnt ld13_0 od13_0 (loopO (stepd13_0 G))) (Code.at' [0, 1, 0] bodyd13) := by
  have e : Code.at' [0, 1, 0] bodyd13 = .loop (Code.at' [0, 1, 0, 0] bodyd13) := by kernel_rfl
  rw [e]
  refine loop_ok (cd13 G hG) 65 rfl rfl (annOk_of_cuts ?_) (eqd13_0 G hG)
  intro x hx
  exact absurd hx (by show x ∉ ([] : List (List Nat × LEnt)); simp)

theorem eqd13_1 (G : Sd13.inT → Option Sd13.outT) (hG : CallsL Go.Proofs.Try.prog 13 Sd13 G) : ∀ s : ld13_1.T, exec dtab (ofL ((13, spoilK 25 5 G) :: Ed11o)) 65 (Code.at' [1, 1, 0, 1, 0, 0] bodyd13) (annd13_1 G) (fun e st => loopEnd (l := ld13_1) (outs := od13_1) e st) (ld13_1.enc s) = stepd13_1 G s := by
  rintro ⟨t3, r1000000, r25, r777⟩
  kernel_rfl
theorem okd13_1 (G : Sd13.inT → Option Sd13.outT) (hG : CallsL Go.Proofs.Try.prog 13 Sd13 G) : LOk Go.Proofs.Try.prog 65 (cutEnt ld13_1 od13_1 (loopO (stepd13_1 G))) (Code.at' [1, 1, 0, 1, 0] bodyd13) := by
  have e : Code.at' [1, 1, 0, 1, 0] bodyd13 = .loop (Code.at' [1, 1, 0, 1, 0, 0] bodyd13) := by kernel_rfl
  rw [e]
  refine loop_ok (cd13 G hG) 65 rfl rfl (annOk_of_cuts ?_) (eqd13_1 G hG)
  intro x hx
  exact absurd hx (by show x ∉ ([] : List (List Nat × LEnt)); simp)

theorem eqd13 (G : Sd13.inT → Option Sd13.outT) (hG : CallsL Go.Proofs.Try.prog 13 Sd13 G) : ∀ x : Sd13.inT, exec dtab (ofL ((13, spoilK 25 5 G) :: Ed11o)) 65 bodyd13 (annd13 G) (finL dtab Sd13) (Sd13.inp.enc x) = Bd13 G x := by
  rintro ⟨io, io1, io2⟩
  kernel_rfl
theorem bcallsd13 (G : Sd13.inT → Option Sd13.outT) (hG : CallsL Go.Proofs.Try.prog 13 Sd13 G) : CallsL Go.Proofs.Try.prog 13 Sd13 (Bd13 G) := by
  refine fun_callsL (fn := Go.Proofs.Try.f13) (c := bodyd13) (ann := (annd13 G)) (cd13 G hG) (by kernel_rfl) (by kernel_rfl) (by kernel_rfl) (by kernel_rfl) (by kernel_rfl) (annOk_of_cuts ?_) (eqd13 G hG)
  have hc : Ann.cuts (annd13 G) = [([0, 1, 0], (cutEnt ld13_0 od13_0 (loopO (stepd13_0 G)))), ([1, 1, 0, 1, 0], (cutEnt ld13_1 od13_1 (loopO (stepd13_1 G))))] := by kernel_rfl
  rw [hc]
  intro x hx
  simp only [List.mem_cons, List.not_mem_nil, or_false] at hx
  rcases hx with rfl | rfl
  · have e : Code.at' [0, 1, 0] bodyd13 = Code.at' [0, 1, 0] bodyd13 := by kernel_rfl
    rw [e]; exact okd13_0 G hG
  · have e : Code.at' [1, 1, 0, 1, 0] bodyd13 = Code.at' [1, 1, 0, 1, 0] bodyd13 := by kernel_rfl
    rw [e]; exact okd13_1 G hG

noncomputable def FRd13 : Nat → (Int × Unit × Unit) × List Int × List Tree → Option (((Int × Unit × Unit) × List Int × List Tree))
  | 0 => fun _ => none
  | k + 1 => Bd13 (FRd13 k)
theorem rcallsd13 : ∀ k, CallsL Go.Proofs.Try.prog 13 Sd13 (FRd13 k)
  | 0 => fun _ _ _ _ _ _ _ _ h => by cases h
  | k + 1 => bcallsd13 (FRd13 k) (rcallsd13 k)
noncomputable def Fd13 (x : (Int × Unit × Unit) × List Int × List Tree) : Option (((Int × Unit × Unit) × List Int × List Tree)) := FRd13 (Tree.rank (spY x) + 1) x
theorem callsd13 : CallsL Go.Proofs.Try.prog 13 Sd13 Fd13 := fun us x y w fp β h1 h2 h3 h4 => rcallsd13 _ us x y w fp β h1 h2 h3 h4
theorem entd13 : EntOk Go.Proofs.Try.prog 13 (funEntL Sd13 true Fd13) := fun_okL (fn := Go.Proofs.Try.f13) (c := bodyd13) (by kernel_rfl) (by kernel_rfl) (by kernel_rfl) (by kernel_rfl) callsd13
noncomputable def Ed13 : List (Nat × Ent) := (13, (spoilTop 25 5 Fd13)) :: Ed11o
theorem Ed13_ok : EntsOk Go.Proofs.Try.prog (ofL Ed13) := .cons (spoilTop_ok (e := 25) (eb := 5) (fn := Go.Proofs.Try.f13) (c := bodyd13) (by kernel_rfl) (by kernel_rfl) (by kernel_rfl) callsd13) Ed11o_ok

/-! ### barbican/barbicanlaw12.DerReads -/
noncomputable def bodyd3 : Code := (Go.Proofs.Try.f3.body).getD .skip
abbrev Sd3 : FL := ⟨⟨[], [.env 0 (.c (.fz (.int .u8)))], []⟩, 1, [(.ret, ⟨[], [.env 0 (.c (.bool))], []⟩)], [.tmp 2], false⟩
noncomputable def cd3 : Ctx Go.Proofs.Try.prog := ⟨dtab, ofL Ed13, dtabOk, Ed13_ok, ddep, dord⟩
abbrev ld3_0 : Lay := ⟨[(4, .ptr 4 0 3)], [.env 0 (.c (.fz (.int .u8))), .env 3 (.c (.sl 15)), .env 5 (.c (.int .i64)), .env 6 (.c (.int .i64)), .reg 15 (.row 5 .u8), .reg 4 (.cells [.int .u8, .fz (.int .u8), .fz .item])], [(15, .env 3 0), (4, .env 4 0)]⟩
abbrev od3_0 : List (AExit × Lay) := [(.ret, ⟨[], [.env 2 (.c (.bool))], []⟩), (.exit 0, ⟨[], [.env 0 (.c (.fz (.int .u8))), .env 3 (.c (.sl 15)), .reg 15 (.row 5 .u8)], [(15, .env 3 0)]⟩)]
noncomputable def stepd3_0 : (List Int) × (Nat × Nat) × Int × Int × List Int × (Int × (List Int) × (List Tree)) → Option (((List Int) × (Nat × Nat) × Int × Int × List Int × (Int × (List Int) × (List Tree))) ⊕ ((Bool) ⊕ ((List Int) × (Nat × Nat) × List Int)))
  | (t0, t3, t5, t6, r15, r4) =>
  if (decide (t6 < 2)) = true then
   (Fd11o ((r15.drop t3.1).take t3.2)).bind fun (y4, y5, y6, y7) =>
    (Fd12 ((Tree.node y4.1 y6 y7), (Tree.node r4.1 r4.2.1 r4.2.2))).bind fun y8 =>
     if (y5 != t5) = false then
      if (!y8) = true then
       some (.inr (.inl false))
      else
       (Fd13 (spX (Tree.node y4.1 y6 y7))).bind fun _ =>
        some (.inl (t0, (t3.1, t3.2), t5, (IntKind.i64.wrap (t6 + 1)), r15, (r4.1, r4.2.1, r4.2.2)))
     else
      some (.inr (.inl false))
  else
   some (.inr (.inr (t0, (t3.1, t3.2), r15)))

noncomputable def annd3_0 : Ann := .none
noncomputable def Fd3 : (List Int) → Option ((Bool))
  | a0 =>
  if okBytes ((List.replicate 0 (0 : Int)).length + a0.length) 1 then
   if okBytes (((List.replicate 0 (0 : Int)) ++ a0).length + ((List.replicate 1 (0 : Int)).set 0 170).length) 1 then
    let f1 : List Int := (((List.replicate 0 (0 : Int)) ++ a0) ++ ((List.replicate 1 (0 : Int)).set 0 170))
    if (0 : Int) ≤ (a0.length : Int) ∧ (a0.length : Int) ≤ (f1.length : Int) then
     (Fd10 a0).bind fun (y2, y3) =>
      (loopO stepd3_0 (a0, (0, ((a0.length : Int).toNat - 0)), y3, 0, f1, (y2.tag, y2.body, y2.kids))).bind fun
       | (.inl z10) =>
        some z10
       | (.inr (z11, z12, z13)) =>
        (Fd14 (((z13.drop z12.1).take z12.2), z11)).bind fun y14 =>
         (Fd15 ()).bind fun y15 =>
          if y15 = true then
           if y14 = true then
            if 0 ≤ (IntKind.i64.wrap ((z11.length : Int) + 1)) ∧ ((z12.1 : Nat) : Int) + (IntKind.i64.wrap ((z11.length : Int) + 1)) ≤ (z13.length : Int) then
             if (0 : Int) ≤ (z11.length : Int) ∧ (z11.length : Int) < ((((IntKind.i64.wrap ((z11.length : Int) + 1)).toNat - 0) : Nat) : Int) then
              let x16 : Bool := ((z13.getD ((z12.1 + 0) + (z11.length : Int).toNat) 0) == 170)
              some x16
             else none
            else none
           else
            some false
          else
           some false
    else none
   else none
  else none

noncomputable def annd3 : Ann := (.seq .none (.seq .none (.seq .none (.seq (.seq .none (.seq (.cut (cutEnt ld3_0 od3_0 (loopO (stepd3_0)))) .none)) .none))))
theorem eqd3_0 : ∀ s : ld3_0.T, exec dtab (ofL Ed13) 63 (Code.at' [1, 1, 1, 0, 1, 0, 0] bodyd3) annd3_0 (fun e st => loopEnd (l := ld3_0) (outs := od3_0) e st) (ld3_0.enc s) = stepd3_0 s := by
  rintro ⟨t0, t3, t5, t6, r15, r4⟩
  kernel_rfl
theorem okd3_0 : LOk Go.Proofs.Try.prog 63 (cutEnt ld3_0 od3_0 (loopO stepd3_0)) (Code.at' [1, 1, 1, 0, 1, 0] bodyd3) := by
  have e : Code.at' [1, 1, 1, 0, 1, 0] bodyd3 = .loop (Code.at' [1, 1, 1, 0, 1, 0, 0] bodyd3) := by kernel_rfl
  rw [e]
  refine loop_ok cd3 63 rfl rfl (annOk_of_cuts ?_) eqd3_0
  intro x hx
  exact absurd hx (by show x ∉ ([] : List (List Nat × LEnt)); simp)

theorem eqd3 : ∀ x : Sd3.inT, exec dtab (ofL Ed13) 63 bodyd3 annd3 (finL dtab Sd3) (Sd3.inp.enc x) = Fd3 x := by
  intro x
  kernel_rfl
theorem callsd3 : CallsL Go.Proofs.Try.prog 3 Sd3 Fd3 := by
  refine fun_callsL (fn := Go.Proofs.Try.f3) (c := bodyd3) (ann := annd3) cd3 (by kernel_rfl) (by kernel_rfl) (by kernel_rfl) (by kernel_rfl) (by kernel_rfl) (annOk_of_cuts ?_) eqd3
  have hc : Ann.cuts annd3 = [([1, 1, 1, 0, 1, 0], (cutEnt ld3_0 od3_0 (loopO (stepd3_0))))] := by kernel_rfl
  rw [hc]
  intro x hx
  simp only [List.mem_cons, List.not_mem_nil, or_false] at hx
  rcases hx with rfl
  · have e : Code.at' [1, 1, 1, 0, 1, 0] bodyd3 = Code.at' [1, 1, 1, 0, 1, 0] bodyd3 := by kernel_rfl
    rw [e]; exact okd3_0

theorem entd3 : EntOk Go.Proofs.Try.prog 3 (funEntL Sd3 true Fd3) := fun_okL (fn := Go.Proofs.Try.f3) (c := bodyd3) (by kernel_rfl) (by kernel_rfl) (by kernel_rfl) (by kernel_rfl) callsd3
noncomputable def Ed3 : List (Nat × Ent) := (3, (funEntL Sd3 true Fd3)) :: Ed13
theorem Ed3_ok : EntsOk Go.Proofs.Try.prog (ofL Ed3) := .cons entd3 Ed13_ok
end Go.Abs
