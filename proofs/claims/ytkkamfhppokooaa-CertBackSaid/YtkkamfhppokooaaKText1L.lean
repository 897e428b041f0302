import Derived.Test.YtkkamfhppokooaaAbsDef4L
import Derived.Test.YtkkamfhppokooaaChecked
import Derived.KernelRfl
set_option linter.unusedVariables false
set_option linter.unusedSimpArgs false
set_option maxRecDepth 100000
open Go.Proofs
namespace Go.Abs
def ctab : Tab := [
  (3, ⟨.int .i64, 1, 8, [.int .i64 0]⟩),
  (4, ⟨.bool, 1, 1, [.bool false]⟩),
  (5, ⟨.int .u8, 1, 1, [.int .u8 0]⟩),
  (9, ⟨.str, 1, 16, [.str ByteArray.empty]⟩),
  (22, ⟨.slice 5, 1, 24, [.val (.slice none 0 0)]⟩),
  (23, ⟨.int .u64, 1, 8, [.int .u64 0]⟩),
  (24, ⟨.slice 45, 1, 24, [.val (.slice none 0 0)]⟩),
  (26, ⟨.struct [(23, 0), (9, 1), (9, 2), (22, 3), (24, 4), (22, 5)], 6, 112, [.int .u64 0, .str ByteArray.empty, .str ByteArray.empty, .val (.slice none 0 0), .val (.slice none 0 0), .val (.slice none 0 0)]⟩),
  (27, ⟨.int .i64, 1, 8, [.int .i64 0]⟩),
  (37, ⟨.struct [(26, 0), (4, 6), (22, 7), (22, 8)], 9, 168, [.int .u64 0, .str ByteArray.empty, .str ByteArray.empty, .val (.slice none 0 0), .val (.slice none 0 0), .val (.slice none 0 0), .bool false, .val (.slice none 0 0), .val (.slice none 0 0)]⟩),
  (45, ⟨.struct [(3, 0), (4, 1), (22, 2)], 3, 40, [.int .i64 0, .bool false, .val (.slice none 0 0)]⟩),
  (56, ⟨.slice 58, 1, 24, [.val (.slice none 0 0)]⟩),
  (58, ⟨.struct [(5, 0), (22, 1), (56, 2)], 3, 56, [.int .u8 0, .val (.slice none 0 0), .val (.slice none 0 0)]⟩),
  (75, ⟨.struct [(27, 0)], 1, 8, [.int .i64 0]⟩),
  (86, ⟨.slice 23, 1, 24, [.val (.slice none 0 0)]⟩),
  (101, ⟨.struct [(22, 0)], 1, 24, [.val (.slice none 0 0)]⟩),
  (109, ⟨.map 3 3, 1, 8, [.val (.map none)]⟩),
  (125, ⟨.struct [(27, 0)], 1, 8, [.int .i64 0]⟩)]
theorem ctabOk : TabOk Try.prog ctab := tabChk_ok (by kernel_rfl)
theorem cdep : 4 ≤ (Try.prog).depth := by
  have : Nat.ble 4 ((Try.prog).depth) = true := by kernel_rfl
  exact Nat.le_of_ble_eq_true this
theorem cord : (Try.prog).follows .mixedOrders = true := by kernel_rfl
def cstr0 : ByteArray := ⟨#[50, 48, 48, 48, 48, 49, 48, 49, 48, 48, 48, 48, 48, 48, 90]⟩
def cstr1 : ByteArray := ⟨#[57, 57, 57, 57, 49, 50, 51, 49, 50, 51, 53, 57, 53, 57, 90]⟩
def cstr2 : ByteArray := ⟨#[]⟩
def cstr3 : ByteArray := ⟨#[97]⟩
def cstr4 : ByteArray := ⟨#[98]⟩
noncomputable def cE0 : List (Nat × Ent) := []
theorem cE0_ok : EntsOk Try.prog (ofL cE0) := .nil _

/-! ### (barbican/barbicanlaw13.Whole).Cert -/
noncomputable def bodyc13 : Code := (Try.f13.body).getD .skip
abbrev Sc13 : FL := ⟨⟨[], [.env 0 (.agg [.int .u64, .str, .str, .fz (.int .u8), .fz (.pair (.int .i64) (.pair .bool (.sl (.int .u8)))), .fz (.int .u8), .bool, .fz (.int .u8), .fz (.int .u8)])], []⟩, 1, [(.ret, ⟨[], [.env 0 (.dat (.pair (.int .u64) (.pair .str (.pair .str (.pair (.sl (.int .u8)) (.pair (.sl (.pair (.int .i64) (.pair .bool (.sl (.int .u8))))) (.sl (.int .u8))))))))], []⟩)], [.cell 2 26], true⟩
noncomputable def cc13 : Ctx Try.prog := ⟨ctab, ofL cE0, ctabOk, cE0_ok, cdep, cord⟩
noncomputable def Fc13 : Int × ByteArray × ByteArray × (List Int) × (List (Int × (Bool × (List Int)))) × (List Int) × Bool × (List Int) × (List Int) → Option (((Int × (ByteArray × (ByteArray × ((List Int) × ((List (Int × (Bool × (List Int)))) × (List Int))))))))
  | a0 =>
  if a0.2.2.2.2.2.2.1 = true then
   some (a0.1, (a0.2.1, (a0.2.2.1, (a0.2.2.2.1, (a0.2.2.2.2.1, a0.2.2.2.2.2.1)))))
  else
   if 0 ≤ (2017 : Int) ∧ (2017 : Int) ≤ 2017 ∧ okBytes 2017 1 then
    let x1 : Int := (((min a0.2.2.2.2.2.2.2.1.length (List.replicate 2017 (0 : Int)).length) : Nat) : Int)
    let f2 : List Int := (a0.2.2.2.2.2.2.2.1.take (min a0.2.2.2.2.2.2.2.1.length (List.replicate 2017 (0 : Int)).length) ++ (List.replicate 2017 (0 : Int)).drop (min a0.2.2.2.2.2.2.2.1.length (List.replicate 2017 (0 : Int)).length))
    if 0 ≤ (3373 : Int) ∧ (3373 : Int) ≤ 3373 ∧ okBytes 3373 1 then
     let x3 : Int := (((min a0.2.2.2.2.2.2.2.2.length (List.replicate 3373 (0 : Int)).length) : Nat) : Int)
     let f4 : List Int := (a0.2.2.2.2.2.2.2.2.take (min a0.2.2.2.2.2.2.2.2.length (List.replicate 3373 (0 : Int)).length) ++ (List.replicate 3373 (0 : Int)).drop (min a0.2.2.2.2.2.2.2.2.length (List.replicate 3373 (0 : Int)).length))
     some (a0.1, (a0.2.1, (a0.2.2.1, (f2, (a0.2.2.2.2.1, f4)))))
    else none
   else none

noncomputable def annc13 : Ann := .none
theorem eqc13 : ∀ x : Sc13.inT, exec ctab (ofL cE0) 24 bodyc13 annc13 (finL ctab Sc13) (Sc13.inp.enc x) = Fc13 x := by
  intro x
  kernel_rfl
theorem callsc13 : CallsL Try.prog 13 Sc13 Fc13 := by
  refine fun_callsL (fn := Try.f13) (c := bodyc13) (ann := annc13) cc13 (by kernel_rfl) (by kernel_rfl) (by kernel_rfl) (by kernel_rfl) (by kernel_rfl) (annOk_of_cuts ?_) eqc13
  intro x hx
  exact absurd hx (by show x ∉ ([] : List (List Nat × LEnt)); simp)

theorem entc13 : EntOk Try.prog 13 (funEntL Sc13 true Fc13) := fun_okL (fn := Try.f13) (c := bodyc13) (by kernel_rfl) (by kernel_rfl) (by kernel_rfl) (by kernel_rfl) callsc13
noncomputable def Ec13 : List (Nat × Ent) := (13, (funEntL Sc13 true Fc13)) :: cE0
theorem Ec13_ok : EntsOk Try.prog (ofL Ec13) := .cons entc13 cE0_ok

/-! ### barbican/cert.named -/
noncomputable def bodyc78 : Code := (Try.f78.body).getD .skip
abbrev Sc78 : FL := ⟨⟨[], [.env 0 (.c (.str))], []⟩, 1, [(.ret, ⟨[], [.env 0 (.c (.bool))], []⟩)], [.tmp 2], false⟩
noncomputable def cc78 : Ctx Try.prog := ⟨ctab, ofL Ec13, ctabOk, Ec13_ok, cdep, cord⟩
abbrev lc78_0 : Lay := ⟨[], [.env 0 (.c (.str)), .env 5 (.c (.int .i64)), .env 6 (.c (.int .i64))], []⟩
abbrev oc78_0 : List (AExit × Lay) := [(.ret, ⟨[], [.env 2 (.c (.bool))], []⟩), (.exit 0, ⟨[], [.env 0 (.c (.str))], []⟩)]
noncomputable def stepc78_0 : ByteArray × Int × Int → Option ((ByteArray × Int × Int) ⊕ ((Bool) ⊕ (ByteArray)))
  | (t0, t5, t6) =>
  if (decide (t6 < t5)) = true then
   if 0 ≤ t6 ∧ t6 < (t0.size : Int) then
    if (decide ((strAt t0 t6) < 32)) = false then
     if 0 ≤ t6 ∧ t6 < (t0.size : Int) then
      if (decide ((strAt t0 t6) > 126)) = true then
       some (.inr (.inl false))
      else
       some (.inl (t0, t5, (IntKind.i64.wrap (t6 + 1))))
     else none
    else
     some (.inr (.inl false))
   else none
  else
   some (.inr (.inr t0))

noncomputable def annc78_0 : Ann := .none
noncomputable def Fc78 : ByteArray → Option ((Bool))
  | a0 =>
  (loopO stepc78_0 (a0, (a0.size : Int), 0)).bind fun
   | (.inl z1) =>
    some z1
   | (.inr z2) =>
    if (decide ((z2.size : Int) ≥ 1)) = true then
     some (decide ((z2.size : Int) ≤ 64))
    else
     some false

noncomputable def annc78 : Ann := (.seq .none (.seq (.seq .none (.seq (.cut (cutEnt lc78_0 oc78_0 (loopO (stepc78_0)))) .none)) .none))
theorem eqc78_0 : ∀ s : lc78_0.T, exec ctab (ofL Ec13) 28 (Code.at' [1, 0, 1, 0, 0] bodyc78) annc78_0 (fun e st => loopEnd (l := lc78_0) (outs := oc78_0) e st) (lc78_0.enc s) = stepc78_0 s := by
  rintro ⟨t0, t5, t6⟩
  kernel_rfl
theorem okc78_0 : LOk Try.prog 28 (cutEnt lc78_0 oc78_0 (loopO stepc78_0)) (Code.at' [1, 0, 1, 0] bodyc78) := by
  have e : Code.at' [1, 0, 1, 0] bodyc78 = .loop (Code.at' [1, 0, 1, 0, 0] bodyc78) := by kernel_rfl
  rw [e]
  refine loop_ok cc78 28 rfl rfl (annOk_of_cuts ?_) eqc78_0
  intro x hx
  exact absurd hx (by show x ∉ ([] : List (List Nat × LEnt)); simp)

theorem eqc78 : ∀ x : Sc78.inT, exec ctab (ofL Ec13) 28 bodyc78 annc78 (finL ctab Sc78) (Sc78.inp.enc x) = Fc78 x := by
  intro x
  kernel_rfl
theorem callsc78 : CallsL Try.prog 78 Sc78 Fc78 := by
  refine fun_callsL (fn := Try.f78) (c := bodyc78) (ann := annc78) cc78 (by kernel_rfl) (by kernel_rfl) (by kernel_rfl) (by kernel_rfl) (by kernel_rfl) (annOk_of_cuts ?_) eqc78
  have hc : Ann.cuts annc78 = [([1, 0, 1, 0], (cutEnt lc78_0 oc78_0 (loopO (stepc78_0))))] := by kernel_rfl
  rw [hc]
  intro x hx
  simp only [List.mem_cons, List.not_mem_nil, or_false] at hx
  rcases hx with rfl
  · have e : Code.at' [1, 0, 1, 0] bodyc78 = Code.at' [1, 0, 1, 0] bodyc78 := by kernel_rfl
    rw [e]; exact okc78_0

theorem entc78 : EntOk Try.prog 78 (funEntL Sc78 true Fc78) := fun_okL (fn := Try.f78) (c := bodyc78) (by kernel_rfl) (by kernel_rfl) (by kernel_rfl) (by kernel_rfl) callsc78
noncomputable def Ec78 : List (Nat × Ent) := (78, (funEntL Sc78 true Fc78)) :: Ec13
theorem Ec78_ok : EntsOk Try.prog (ofL Ec78) := .cons entc78 Ec13_ok

/-! ### barbican/cert.known -/
noncomputable def bodyc79 : Code := (Try.f79.body).getD .skip
abbrev Sc79 : FL := ⟨⟨[], [.env 0 (.c (.int .i64))], []⟩, 1, [(.ret, ⟨[], [.env 0 (.c (.bool))], []⟩)], [.tmp 2], false⟩
noncomputable def cc79 : Ctx Try.prog := ⟨ctab, ofL Ec78, ctabOk, Ec78_ok, cdep, cord⟩
noncomputable def Fc79 : Int → Option ((Bool))
  | a0 =>
  if (a0 == 1) = false then
   if (a0 == 2) = false then
    if (decide (a0 > 100)) = true then
     if (decide (a0 < 112)) = false then
      if (decide (a0 ≥ 201)) = true then
       some (decide (a0 ≤ 203))
      else
       some false
     else
      some true
    else
     if (decide (a0 ≥ 201)) = true then
      some (decide (a0 ≤ 203))
     else
      some false
   else
    some true
  else
   some true

noncomputable def annc79 : Ann := .none
theorem eqc79 : ∀ x : Sc79.inT, exec ctab (ofL Ec78) 25 bodyc79 annc79 (finL ctab Sc79) (Sc79.inp.enc x) = Fc79 x := by
  intro x
  kernel_rfl
theorem callsc79 : CallsL Try.prog 79 Sc79 Fc79 := by
  refine fun_callsL (fn := Try.f79) (c := bodyc79) (ann := annc79) cc79 (by kernel_rfl) (by kernel_rfl) (by kernel_rfl) (by kernel_rfl) (by kernel_rfl) (annOk_of_cuts ?_) eqc79
  intro x hx
  exact absurd hx (by show x ∉ ([] : List (List Nat × LEnt)); simp)

theorem entc79 : EntOk Try.prog 79 (funEntL Sc79 true Fc79) := fun_okL (fn := Try.f79) (c := bodyc79) (by kernel_rfl) (by kernel_rfl) (by kernel_rfl) (by kernel_rfl) callsc79
noncomputable def Ec79 : List (Nat × Ent) := (79, (funEntL Sc79 true Fc79)) :: Ec78
theorem Ec79_ok : EntsOk Try.prog (ofL Ec79) := .cons entc79 Ec78_ok

/-! ### barbican/cert.values -/
noncomputable def bodyc43 : Code := (Try.f43.body).getD .skip
abbrev Sc43 : FL := ⟨⟨[], [.env 0 (.c (.fzp (.pair (.int .u64) (.pair .str (.pair .str (.pair (.sl (.int .u8)) (.pair (.sl (.pair (.int .i64) (.pair .bool (.sl (.int .u8))))) (.sl (.int .u8)))))))))], []⟩, 1, [(.ret, ⟨[], [.env 0 (.c (.int .i64))], []⟩)], [.tmp 2], false⟩
noncomputable def cc43 : Ctx Try.prog := ⟨ctab, ofL Ec79, ctabOk, Ec79_ok, cdep, cord⟩
abbrev lc43_0 : Lay := ⟨[(3, .full 38)], [.env 0 (.c (.fzp (.pair (.int .u64) (.pair .str (.pair .str (.pair (.sl (.int .u8)) (.pair (.sl (.pair (.int .i64) (.pair .bool (.sl (.int .u8))))) (.sl (.int .u8))))))))), .env 42 (.c (.fz (.pair (.int .i64) (.pair .bool (.sl (.int .u8)))))), .env 43 (.c (.int .i64)), .env 44 (.c (.int .i64)), .reg 38 .imap], [(38, .env 3 0)]⟩
abbrev oc43_0 : List (AExit × Lay) := [(.ret, ⟨[], [.env 2 (.c (.int .i64))], []⟩), (.exit 0, ⟨[(3, .full 38)], [.env 0 (.c (.fzp (.pair (.int .u64) (.pair .str (.pair .str (.pair (.sl (.int .u8)) (.pair (.sl (.pair (.int .i64) (.pair .bool (.sl (.int .u8))))) (.sl (.int .u8))))))))), .reg 38 .imap], [(38, .env 3 0)]⟩)]
noncomputable def stepc43_0 : (Int × (ByteArray × (ByteArray × ((List Int) × ((List (Int × (Bool × (List Int)))) × (List Int)))))) × (List (Int × (Bool × (List Int)))) × Int × Int × (List (Int × Int)) → Option (((Int × (ByteArray × (ByteArray × ((List Int) × ((List (Int × (Bool × (List Int)))) × (List Int)))))) × (List (Int × (Bool × (List Int)))) × Int × Int × (List (Int × Int))) ⊕ ((Int) ⊕ ((Int × (ByteArray × (ByteArray × ((List Int) × ((List (Int × (Bool × (List Int)))) × (List Int)))))) × (List (Int × Int)))))
  | (t0, t42, t43, t44, r38) =>
  if (decide (t44 < t43)) = true then
   if (0 : Int) ≤ t44 ∧ t44 < (t42.length : Int) then
    let x3 : Int := (t42.getD t44.toNat (DT.dflt (.pair (.int .i64) (.pair .bool (.sl (.int .u8)))))).1
    let x4 : Bool := (t42.getD t44.toNat (DT.dflt (.pair (.int .i64) (.pair .bool (.sl (.int .u8)))))).2.1
    let f5 : List Int := (t42.getD t44.toNat (DT.dflt (.pair (.int .i64) (.pair .bool (.sl (.int .u8)))))).2.2
    if (decide (x3 < 1)) = false then
     if (decide (x3 > 2147483647)) = true then
      some (.inr (.inl 134))
     else
      some (.inl ((t0.1, (t0.2.1, (t0.2.2.1, (t0.2.2.2.1, (t0.2.2.2.2.1, t0.2.2.2.2.2))))), t42, t43, (IntKind.i64.wrap (t44 + 1)), (imPut r38 x3 (IntKind.i64.wrap ((imGet r38 x3) + 1)))))
    else
     some (.inr (.inl 134))
   else none
  else
   some (.inr (.inr ((t0.1, (t0.2.1, (t0.2.2.1, (t0.2.2.2.1, (t0.2.2.2.2.1, t0.2.2.2.2.2))))), r38)))

noncomputable def annc43_0 : Ann := .none
abbrev lc43_1 : Lay := ⟨[], [.env 73 (.c (.fz (.pair (.int .i64) (.pair .bool (.sl (.int .u8)))))), .env 74 (.c (.int .i64)), .env 75 (.c (.int .i64))], []⟩
abbrev oc43_1 : List (AExit × Lay) := [(.ret, ⟨[], [.env 2 (.c (.int .i64))], []⟩), (.exit 2, ⟨[], [], []⟩)]
noncomputable def stepc43_1 : (List (Int × (Bool × (List Int)))) × Int × Int → Option (((List (Int × (Bool × (List Int)))) × Int × Int) ⊕ ((Int) ⊕ (Unit)))
  | (t73, t74, t75) =>
  if (decide (t75 < t74)) = true then
   if (0 : Int) ≤ t75 ∧ t75 < (t73.length : Int) then
    let x10 : Int := (t73.getD t75.toNat (DT.dflt (.pair (.int .i64) (.pair .bool (.sl (.int .u8)))))).1
    let x11 : Bool := (t73.getD t75.toNat (DT.dflt (.pair (.int .i64) (.pair .bool (.sl (.int .u8)))))).2.1
    let f12 : List Int := (t73.getD t75.toNat (DT.dflt (.pair (.int .i64) (.pair .bool (.sl (.int .u8)))))).2.2
    if x11 = true then
     (Fc79 x10).bind fun y13 =>
      if (!y13) = true then
       some (.inr (.inl 133))
      else
       some (.inl (t73, t74, (IntKind.i64.wrap (t75 + 1))))
    else
     some (.inl (t73, t74, (IntKind.i64.wrap (t75 + 1))))
   else none
  else
   some (.inr (.inr ()))

noncomputable def annc43_1 : Ann := .none
noncomputable def Fc43 : (Int × (ByteArray × (ByteArray × ((List Int) × ((List (Int × (Bool × (List Int)))) × (List Int)))))) → Option ((Int))
  | a0 =>
  (Fc78 a0.2.1).bind fun y1 =>
   if (!y1) = false then
    (Fc78 a0.2.2.1).bind fun y2 =>
     if (!y2) = false then
      if ((a0.2.2.2.1.length : Int) != 2017) = false then
       if (decide ((a0.2.2.2.2.1.length : Int) > 16)) = true then
        some 134
       else
        (loopO stepc43_0 ((a0.1, (a0.2.1, (a0.2.2.1, (a0.2.2.2.1, (a0.2.2.2.2.1, a0.2.2.2.2.2))))), a0.2.2.2.2.1, (a0.2.2.2.2.1.length : Int), 0, ([] : List (Int × Int)))).bind fun
         | (.inl z6) =>
          some z6
         | (.inr (z7, z8)) =>
          let x9 : Bool := (decide (((z8.length : Nat) : Int) < (z7.2.2.2.2.1.length : Int)))
          if x9 = true then
           some 132
          else
           (loopO stepc43_1 (z7.2.2.2.2.1, (z7.2.2.2.2.1.length : Int), 0)).bind fun
            | (.inl z14) =>
             some z14
            | (.inr _) =>
             some 0
      else
       some 134
     else
      some 134
   else
    some 134

noncomputable def annc43 : Ann := (.seq .none (.seq .none (.seq .none (.seq (.seq .none (.seq (.cut (cutEnt lc43_0 oc43_0 (loopO (stepc43_0)))) .none)) (.seq .none (.seq (.seq .none (.seq (.cut (cutEnt lc43_1 oc43_1 (loopO (stepc43_1)))) .none)) .none))))))
theorem eqc43_0 : ∀ s : lc43_0.T, exec ctab (ofL Ec79) 88 (Code.at' [1, 1, 1, 0, 1, 0, 0] bodyc43) annc43_0 (fun e st => loopEnd (l := lc43_0) (outs := oc43_0) e st) (lc43_0.enc s) = stepc43_0 s := by
  rintro ⟨t0, t42, t43, t44, r38⟩
  kernel_rfl
theorem okc43_0 : LOk Try.prog 88 (cutEnt lc43_0 oc43_0 (loopO stepc43_0)) (Code.at' [1, 1, 1, 0, 1, 0] bodyc43) := by
  have e : Code.at' [1, 1, 1, 0, 1, 0] bodyc43 = .loop (Code.at' [1, 1, 1, 0, 1, 0, 0] bodyc43) := by kernel_rfl
  rw [e]
  refine loop_ok cc43 88 rfl rfl (annOk_of_cuts ?_) eqc43_0
  intro x hx
  exact absurd hx (by show x ∉ ([] : List (List Nat × LEnt)); simp)

theorem eqc43_1 : ∀ s : lc43_1.T, exec ctab (ofL Ec79) 88 (Code.at' [1, 1, 1, 1, 1, 0, 1, 0, 0] bodyc43) annc43_1 (fun e st => loopEnd (l := lc43_1) (outs := oc43_1) e st) (lc43_1.enc s) = stepc43_1 s := by
  rintro ⟨t73, t74, t75⟩
  kernel_rfl
theorem okc43_1 : LOk Try.prog 88 (cutEnt lc43_1 oc43_1 (loopO stepc43_1)) (Code.at' [1, 1, 1, 1, 1, 0, 1, 0] bodyc43) := by
  have e : Code.at' [1, 1, 1, 1, 1, 0, 1, 0] bodyc43 = .loop (Code.at' [1, 1, 1, 1, 1, 0, 1, 0, 0] bodyc43) := by kernel_rfl
  rw [e]
  refine loop_ok cc43 88 rfl rfl (annOk_of_cuts ?_) eqc43_1
  intro x hx
  exact absurd hx (by show x ∉ ([] : List (List Nat × LEnt)); simp)

theorem eqc43 : ∀ x : Sc43.inT, exec ctab (ofL Ec79) 88 bodyc43 annc43 (finL ctab Sc43) (Sc43.inp.enc x) = Fc43 x := by
  intro x
  kernel_rfl
theorem callsc43 : CallsL Try.prog 43 Sc43 Fc43 := by
  refine fun_callsL (fn := Try.f43) (c := bodyc43) (ann := annc43) cc43 (by kernel_rfl) (by kernel_rfl) (by kernel_rfl) (by kernel_rfl) (by kernel_rfl) (annOk_of_cuts ?_) eqc43
  have hc : Ann.cuts annc43 = [([1, 1, 1, 0, 1, 0], (cutEnt lc43_0 oc43_0 (loopO (stepc43_0)))), ([1, 1, 1, 1, 1, 0, 1, 0], (cutEnt lc43_1 oc43_1 (loopO (stepc43_1))))] := by kernel_rfl
  rw [hc]
  intro x hx
  simp only [List.mem_cons, List.not_mem_nil, or_false] at hx
  rcases hx with rfl | rfl
  · have e : Code.at' [1, 1, 1, 0, 1, 0] bodyc43 = Code.at' [1, 1, 1, 0, 1, 0] bodyc43 := by kernel_rfl
    rw [e]; exact okc43_0
  · have e : Code.at' [1, 1, 1, 1, 1, 0, 1, 0] bodyc43 = Code.at' [1, 1, 1, 1, 1, 0, 1, 0] bodyc43 := by kernel_rfl
    rw [e]; exact okc43_1

theorem entc43 : EntOk Try.prog 43 (funEntL Sc43 true Fc43) := fun_okL (fn := Try.f43) (c := bodyc43) (by kernel_rfl) (by kernel_rfl) (by kernel_rfl) (by kernel_rfl) callsc43
noncomputable def Ec43 : List (Nat × Ent) := (43, (funEntL Sc43 true Fc43)) :: Ec79
theorem Ec43_ok : EntsOk Try.prog (ofL Ec43) := .cons entc43 Ec79_ok

/-! ### slices.Reverse[[]byte,byte] -/
noncomputable def bodyc107 : Code := (Try.f107.body).getD .skip
abbrev Sc107 : FL := ⟨⟨[], [.reg 1000000 (.row 5 .u8), .env 0 (.c (.sl 1000000))], [(1000000, .env 0 0)]⟩, 1, [(.ret, ⟨[], [.reg 1000000 (.row 5 .u8)], []⟩)], [], false⟩
noncomputable def cc107 : Ctx Try.prog := ⟨ctab, ofL Ec43, ctabOk, Ec43_ok, cdep, cord⟩
abbrev lc107_0 : Lay := ⟨[], [.env 0 (.c (.sl 1000000)), .env 2 (.c (.int .i64)), .env 3 (.c (.int .i64)), .reg 1000000 (.row 5 .u8)], []⟩
abbrev oc107_0 : List (AExit × Lay) := [(.exit 0, ⟨[], [.reg 1000000 (.row 5 .u8)], []⟩)]
noncomputable def stepc107_0 : (Nat × Nat) × Int × Int × List Int → Option (((Nat × Nat) × Int × Int × List Int) ⊕ ((List Int)))
  | (t0, t2, t3, r1000000) =>
  if (decide (t2 < t3)) = true then
   if (0 : Int) ≤ t3 ∧ t3 < ((t0.2 : Nat) : Int) then
    if (0 : Int) ≤ t2 ∧ t2 < ((t0.2 : Nat) : Int) then
     if (0 : Int) ≤ t2 ∧ t2 < ((t0.2 : Nat) : Int) then
      let f1 : List Int := (r1000000.set (t0.1 + t2.toNat) (r1000000.getD (t0.1 + t3.toNat) 0))
      if (0 : Int) ≤ t3 ∧ t3 < ((t0.2 : Nat) : Int) then
       let f2 : List Int := (f1.set (t0.1 + t3.toNat) (r1000000.getD (t0.1 + t2.toNat) 0))
       some (.inl ((t0.1, t0.2), (IntKind.i64.wrap (t2 + 1)), (IntKind.i64.wrap (t3 - 1)), f2))
      else none
     else none
    else none
   else none
  else
   some (.inr r1000000)

noncomputable def annc107_0 : Ann := .none
noncomputable def Fc107 : List Int × (Nat × Nat) → Option ((List Int))
  | (ra0, a0) =>
  (loopO stepc107_0 ((a0.1, a0.2), 0, (IntKind.i64.wrap (((a0.2 : Nat) : Int) - 1)), ra0)).bind fun z3 =>
   some z3

noncomputable def annc107 : Ann := (.seq .none (.seq (.cut (cutEnt lc107_0 oc107_0 (loopO (stepc107_0)))) .none))
theorem eqc107_0 : ∀ s : lc107_0.T, exec ctab (ofL Ec43) 28 (Code.at' [1, 0, 0] bodyc107) annc107_0 (fun e st => loopEnd (l := lc107_0) (outs := oc107_0) e st) (lc107_0.enc s) = stepc107_0 s := by
  rintro ⟨t0, t2, t3, r1000000⟩
  kernel_rfl
theorem okc107_0 : LOk Try.prog 28 (cutEnt lc107_0 oc107_0 (loopO stepc107_0)) (Code.at' [1, 0] bodyc107) := by
  have e : Code.at' [1, 0] bodyc107 = .loop (Code.at' [1, 0, 0] bodyc107) := by kernel_rfl
  rw [e]
  refine loop_ok cc107 28 rfl rfl (annOk_of_cuts ?_) eqc107_0
  intro x hx
  exact absurd hx (by show x ∉ ([] : List (List Nat × LEnt)); simp)

theorem eqc107 : ∀ x : Sc107.inT, exec ctab (ofL Ec43) 28 bodyc107 annc107 (finL ctab Sc107) (Sc107.inp.enc x) = Fc107 x := by
  rintro ⟨ra0, a0⟩
  kernel_rfl
theorem callsc107 : CallsL Try.prog 107 Sc107 Fc107 := by
  refine fun_callsL (fn := Try.f107) (c := bodyc107) (ann := annc107) cc107 (by kernel_rfl) (by kernel_rfl) (by kernel_rfl) (by kernel_rfl) (by kernel_rfl) (annOk_of_cuts ?_) eqc107
  have hc : Ann.cuts annc107 = [([1, 0], (cutEnt lc107_0 oc107_0 (loopO (stepc107_0))))] := by kernel_rfl
  rw [hc]
  intro x hx
  simp only [List.mem_cons, List.not_mem_nil, or_false] at hx
  rcases hx with rfl
  · have e : Code.at' [1, 0] bodyc107 = Code.at' [1, 0] bodyc107 := by kernel_rfl
    rw [e]; exact okc107_0

theorem entc107 : EntOk Try.prog 107 (funEntL Sc107 true Fc107) := fun_okL (fn := Try.f107) (c := bodyc107) (by kernel_rfl) (by kernel_rfl) (by kernel_rfl) (by kernel_rfl) callsc107
noncomputable def Ec107 : List (Nat × Ent) := (107, (funEntL Sc107 true Fc107)) :: Ec43
theorem Ec107_ok : EntsOk Try.prog (ofL Ec107) := .cons entc107 Ec43_ok

/-! ### barbican/der.OfUint -/
noncomputable def bodyc83 : Code := (Try.f83.body).getD .skip
abbrev Sc83 : FL := ⟨⟨[], [.env 0 (.c (.int .u64))], []⟩, 1, [(.ret, ⟨[], [.env 0 (.dat .item)], []⟩)], [.cell 2 58], true⟩
noncomputable def cc83 : Ctx Try.prog := ⟨ctab, ofL Ec107, ctabOk, Ec107_ok, cdep, cord⟩
abbrev lc83_0 : Lay := ⟨[(2, .ptr 2 0 3), (3, .full 6)], [.env 0 (.c (.int .u64)), .reg 2 (.cells [.int .u8, .nils, .nils]), .reg 6 (.row 5 .u8)], [(2, .env 2 0), (6, .env 3 0)]⟩
abbrev oc83_0 : List (AExit × Lay) := [(.exit 0, ⟨[(2, .ptr 2 0 3), (3, .full 6)], [.reg 2 (.cells [.int .u8, .nils, .nils]), .reg 6 (.row 5 .u8)], [(2, .env 2 0), (6, .env 3 0)]⟩)]
noncomputable def stepc83_0 : Int × (Int × Unit × Unit) × List Int → Option ((Int × (Int × Unit × Unit) × List Int) ⊕ (((Int × Unit × Unit) × List Int)))
  | (t0, r2, r6) =>
  if (decide (t0 > 0)) = true then
   if okBytes (r6.length + ((List.replicate 1 (0 : Int)).set 0 (IntKind.u8.wrap t0)).length) 1 then
    let f1 : List Int := (r6 ++ ((List.replicate 1 (0 : Int)).set 0 (IntKind.u8.wrap t0)))
    some (.inl ((shrI .u64 t0 8), (r2.1, (), ()), f1))
   else none
  else
   some (.inr ((r2.1, (), ()), r6))

noncomputable def annc83_0 : Ann := .none
noncomputable def Fc83 : Int → Option ((Tree))
  | a0 =>
  (loopO stepc83_0 ((shrI .u64 a0 8), (0, (), ()), ((List.replicate 1 (0 : Int)).set 0 (IntKind.u8.wrap a0)))).bind fun (z2, z3) =>
   if (0 : Int) ≤ (IntKind.i64.wrap ((z3.length : Int) - 1)) ∧ (IntKind.i64.wrap ((z3.length : Int) - 1)) < (z3.length : Int) then
    let x4 : Bool := (decide ((z3.getD (IntKind.i64.wrap ((z3.length : Int) - 1)).toNat 0) ≥ 128))
    if x4 = true then
     if okBytes (z3.length + ((List.replicate 1 (0 : Int)).set 0 0).length) 1 then
      (Fc107 ((z3 ++ ((List.replicate 1 (0 : Int)).set 0 0)), (0, (z3 ++ ((List.replicate 1 (0 : Int)).set 0 0)).length))).bind fun y5 =>
       some (Tree.node 2 y5 ([] : List Tree))
     else none
    else
     (Fc107 (z3, (0, z3.length))).bind fun y6 =>
      some (Tree.node 2 y6 ([] : List Tree))
   else none

noncomputable def annc83 : Ann := (.seq .none (.seq .none (.seq (.seq .none (.seq (.cut (cutEnt lc83_0 oc83_0 (loopO (stepc83_0)))) .none)) .none)))
theorem eqc83_0 : ∀ s : lc83_0.T, exec ctab (ofL Ec107) 32 (Code.at' [1, 1, 0, 1, 0, 0] bodyc83) annc83_0 (fun e st => loopEnd (l := lc83_0) (outs := oc83_0) e st) (lc83_0.enc s) = stepc83_0 s := by
  rintro ⟨t0, r2, r6⟩
  kernel_rfl
theorem okc83_0 : LOk Try.prog 32 (cutEnt lc83_0 oc83_0 (loopO stepc83_0)) (Code.at' [1, 1, 0, 1, 0] bodyc83) := by
  have e : Code.at' [1, 1, 0, 1, 0] bodyc83 = .loop (Code.at' [1, 1, 0, 1, 0, 0] bodyc83) := by kernel_rfl
  rw [e]
  refine loop_ok cc83 32 rfl rfl (annOk_of_cuts ?_) eqc83_0
  intro x hx
  exact absurd hx (by show x ∉ ([] : List (List Nat × LEnt)); simp)

theorem eqc83 : ∀ x : Sc83.inT, exec ctab (ofL Ec107) 32 bodyc83 annc83 (finL ctab Sc83) (Sc83.inp.enc x) = Fc83 x := by
  intro x
  kernel_rfl
theorem callsc83 : CallsL Try.prog 83 Sc83 Fc83 := by
  refine fun_callsL (fn := Try.f83) (c := bodyc83) (ann := annc83) cc83 (by kernel_rfl) (by kernel_rfl) (by kernel_rfl) (by kernel_rfl) (by kernel_rfl) (annOk_of_cuts ?_) eqc83
  have hc : Ann.cuts annc83 = [([1, 1, 0, 1, 0], (cutEnt lc83_0 oc83_0 (loopO (stepc83_0))))] := by kernel_rfl
  rw [hc]
  intro x hx
  simp only [List.mem_cons, List.not_mem_nil, or_false] at hx
  rcases hx with rfl
  · have e : Code.at' [1, 1, 0, 1, 0] bodyc83 = Code.at' [1, 1, 0, 1, 0] bodyc83 := by kernel_rfl
    rw [e]; exact okc83_0

theorem entc83 : EntOk Try.prog 83 (funEntL Sc83 true Fc83) := fun_okL (fn := Try.f83) (c := bodyc83) (by kernel_rfl) (by kernel_rfl) (by kernel_rfl) (by kernel_rfl) callsc83
noncomputable def Ec83 : List (Nat × Ent) := (83, (funEntL Sc83 true Fc83)) :: Ec107
theorem Ec83_ok : EntsOk Try.prog (ofL Ec83) := .cons entc83 Ec107_ok

/-! ### barbican/cert.seq -/
noncomputable def bodyc47 : Code := (Try.f47.body).getD .skip
abbrev Sc47 : FL := ⟨⟨[(1, .full 1000001)], [.env 0 (.c (.int .u8)), .reg 1000001 (.rowd 58 .item)], [(1000001, .env 1 0)]⟩, 2, [(.ret, ⟨[], [.env 0 (.agg [.int .u8, .nils, .full 1000001]), .reg 1000001 (.rowd 58 .item)], []⟩)], [.cell 4 58], true⟩
noncomputable def cc47 : Ctx Try.prog := ⟨ctab, ofL Ec83, ctabOk, Ec83_ok, cdep, cord⟩
noncomputable def Fc47 : Int × List Tree → Option (((Int × Unit × Unit) × List Tree))
  | (a0, a1) =>
  some ((a0, (), ()), a1)

noncomputable def annc47 : Ann := .none
theorem eqc47 : ∀ x : Sc47.inT, exec ctab (ofL Ec83) 8 bodyc47 annc47 (finL ctab Sc47) (Sc47.inp.enc x) = Fc47 x := by
  rintro ⟨a0, a1⟩
  kernel_rfl
theorem callsc47 : CallsL Try.prog 47 Sc47 Fc47 := by
  refine fun_callsL (fn := Try.f47) (c := bodyc47) (ann := annc47) cc47 (by kernel_rfl) (by kernel_rfl) (by kernel_rfl) (by kernel_rfl) (by kernel_rfl) (annOk_of_cuts ?_) eqc47
  intro x hx
  exact absurd hx (by show x ∉ ([] : List (List Nat × LEnt)); simp)

theorem entc47 : EntOk Try.prog 47 (funEntL Sc47 true Fc47) := fun_okL (fn := Try.f47) (c := bodyc47) (by kernel_rfl) (by kernel_rfl) (by kernel_rfl) (by kernel_rfl) callsc47
noncomputable def Ec47 : List (Nat × Ent) := (47, (funEntL Sc47 true Fc47)) :: Ec83
theorem Ec47_ok : EntsOk Try.prog (ofL Ec47) := .cons entc47 Ec83_ok

/-! ### barbican/der.OfOID -/
noncomputable def bodyc108 : Code := (Try.f108.body).getD .skip
abbrev Sc108 : FL := ⟨⟨[], [.env 0 (.c (.fz (.int .u64)))], []⟩, 1, [(.ret, ⟨[], [.env 0 (.dat .item), .env 1 (.c (.int .i64))], []⟩)], [.cell 2 58, .tmp 3], true⟩
noncomputable def cc108 : Ctx Try.prog := ⟨ctab, ofL Ec47, ctabOk, Ec47_ok, cdep, cord⟩
abbrev lc108_1 : Lay := ⟨[(2, .ptr 2 0 3), (4, .full 72)], [.env 0 (.c (.fz (.int .u64))), .env 6 (.c (.int .u64)), .env 7 (.c (.int .i64)), .env 47 (.c (.fz (.int .u64))), .env 48 (.c (.int .i64)), .env 49 (.c (.int .i64)), .reg 2 (.cells [.int .u8, .nils, .nils]), .reg 72 (.row 5 .u8)], [(2, .env 2 0), (72, .env 4 0)]⟩
abbrev oc108_1 : List (AExit × Lay) := [(.exit 2, ⟨[(2, .ptr 2 0 3), (4, .full 72)], [.env 0 (.c (.fz (.int .u64))), .env 7 (.c (.int .i64)), .env 47 (.c (.fz (.int .u64))), .env 48 (.c (.int .i64)), .env 49 (.c (.int .i64)), .reg 2 (.cells [.int .u8, .nils, .nils]), .reg 72 (.row 5 .u8)], [(2, .env 2 0), (72, .env 4 0)]⟩)]
noncomputable def stepc108_1 : (List Int) × Int × Int × (List Int) × Int × Int × (Int × Unit × Unit) × List Int → Option (((List Int) × Int × Int × (List Int) × Int × Int × (Int × Unit × Unit) × List Int) ⊕ (((List Int) × Int × (List Int) × Int × Int × (Int × Unit × Unit) × List Int)))
  | (t0, t6, t7, t47, t48, t49, r2, r72) =>
  if (decide (t6 > 0)) = true then
   let f4 : List Int := ((List.replicate 1 (0 : Int)).set 0 (bitsOr .u8 (IntKind.u8.wrap t6) 128))
   if okBytes (r72.length + f4.length) 1 then
    some (.inl (t0, (shrI .u64 t6 7), t7, t47, t48, t49, (r2.1, (), ()), (r72 ++ f4)))
   else none
  else
   some (.inr (t0, t7, t47, t48, t49, (r2.1, (), ()), r72))

noncomputable def annc108_1 : Ann := .none
abbrev lc108_0 : Lay := ⟨[(2, .ptr 2 0 3), (4, .full 4)], [.env 0 (.c (.fz (.int .u64))), .env 47 (.c (.fz (.int .u64))), .env 48 (.c (.int .i64)), .env 49 (.c (.int .i64)), .reg 2 (.cells [.int .u8, .nils, .nils]), .reg 4 (.row 5 .u8)], [(2, .env 2 0), (4, .env 4 0)]⟩
abbrev oc108_0 : List (AExit × Lay) := [(.ret, ⟨[(2, .ptr 2 0 3)], [.env 3 (.c (.int .i64)), .reg 2 (.cells [.int .u8, .nils, .nils])], [(2, .env 2 0)]⟩), (.exit 0, ⟨[(2, .ptr 2 0 3), (4, .full 4)], [.reg 2 (.cells [.int .u8, .nils, .nils]), .reg 4 (.row 5 .u8)], [(2, .env 2 0), (4, .env 4 0)]⟩)]
noncomputable def stepc108_0 : (List Int) × (List Int) × Int × Int × (Int × Unit × Unit) × List Int → Option (((List Int) × (List Int) × Int × Int × (Int × Unit × Unit) × List Int) ⊕ ((Int × (Int × Unit × Unit)) ⊕ ((Int × Unit × Unit) × List Int)))
  | (t0, t47, t48, t49, r2, r4) =>
  if (decide (t49 < t48)) = true then
   if (0 : Int) ≤ t49 ∧ t49 < (t47.length : Int) then
    if (t49 == 0) = true then
     if (0 : Int) ≤ (0 : Int) ∧ (0 : Int) < (t0.length : Int) then
      let x2 : Int := (IntKind.u64.wrap ((t47.getD t49.toNat 0) + (IntKind.u64.wrap (40 * (t0.getD 0 0)))))
      if (decide (x2 > 4294967295)) = true then
       some (.inr (.inl (127, (0, (), ()))))
      else
       let f3 : List Int := ((List.replicate 1 (0 : Int)).set 0 (IntKind.u8.wrap (bitsAnd .u64 x2 127)))
       if okBytes (r4.length + f3.length) 1 then
        (loopO stepc108_1 (t0, (shrI .u64 x2 7), (r4.length : Int), t47, t48, t49, (r2.1, (), ()), (r4 ++ f3))).bind fun (z5, z6, z7, z8, z9, z10, z11) =>
         if (0 : Int) ≤ z6 ∧ z6 ≤ (z11.length : Int) then
          (Fc107 (z11, (z6.toNat, (z11.length - z6.toNat)))).bind fun y12 =>
           some (.inl (z5, z7, z8, (IntKind.i64.wrap (z9 + 1)), (z10.1, (), ()), y12))
         else none
       else none
     else none
    else
     if (decide ((t47.getD t49.toNat 0) > 4294967295)) = true then
      some (.inr (.inl (127, (0, (), ()))))
     else
      let f13 : List Int := ((List.replicate 1 (0 : Int)).set 0 (IntKind.u8.wrap (bitsAnd .u64 (t47.getD t49.toNat 0) 127)))
      if okBytes (r4.length + f13.length) 1 then
       (loopO stepc108_1 (t0, (shrI .u64 (t47.getD t49.toNat 0) 7), (r4.length : Int), t47, t48, t49, (r2.1, (), ()), (r4 ++ f13))).bind fun (z14, z15, z16, z17, z18, z19, z20) =>
        if (0 : Int) ≤ z15 ∧ z15 ≤ (z20.length : Int) then
         (Fc107 (z20, (z15.toNat, (z20.length - z15.toNat)))).bind fun y21 =>
          some (.inl (z14, z16, z17, (IntKind.i64.wrap (z18 + 1)), (z19.1, (), ()), y21))
        else none
      else none
   else none
  else
   some (.inr (.inr ((r2.1, (), ()), r4)))

noncomputable def annc108_0 : Ann := (.seq .none (.seq .none (.seq (.seq (.seq .none (.seq .none (.seq .none (.seq .none (.seq .none (.seq (.seq .none (.seq (.cut (cutEnt lc108_1 oc108_1 (loopO (stepc108_1)))) .none)) .none)))))) .none) .none)))
noncomputable def Fc108 : (List Int) → Option ((Tree × Int))
  | a0 =>
  if (decide ((a0.length : Int) < 2)) = false then
   if (decide ((a0.length : Int) > 20)) = false then
    if (0 : Int) ≤ (0 : Int) ∧ (0 : Int) < (a0.length : Int) then
     if (decide ((a0.getD 0 0) > 2)) = false then
      if (0 : Int) ≤ (0 : Int) ∧ (0 : Int) < (a0.length : Int) then
       if (decide ((a0.getD 0 0) < 2)) = true then
        if (0 : Int) ≤ (1 : Int) ∧ (1 : Int) < (a0.length : Int) then
         if (decide ((a0.getD 1 0) ≥ 40)) = false then
          if (0 : Int) ≤ (1 : Int) ∧ (1 : Int) < (a0.length : Int) then
           if (0 : Int) ≤ (0 : Int) ∧ (0 : Int) < (a0.length : Int) then
            let x1 : Int := (IntKind.u64.wrap (4294967295 - (IntKind.u64.wrap (40 * (a0.getD 0 0)))))
            if (decide ((a0.getD 1 0) > x1)) = true then
             some ((Tree.node 0 ([] : List Int) ([] : List Tree)), 127)
            else
             if (0 : Int) ≤ (1 : Int) ∧ (1 : Int) ≤ (a0.length : Int) then
              (loopO stepc108_0 (a0, (a0.drop 1), ((a0.drop 1).length : Int), 0, (0, (), ()), ([] : List Int))).bind fun
               | (.inl (z22, z23)) =>
                some ((Tree.node z23.1 ([] : List Int) ([] : List Tree)), z22)
               | (.inr (z24, z25)) =>
                some ((Tree.node 6 z25 ([] : List Tree)), 0)
             else none
           else none
          else none
         else
          some ((Tree.node 0 ([] : List Int) ([] : List Tree)), 127)
        else none
       else
        if (0 : Int) ≤ (1 : Int) ∧ (1 : Int) < (a0.length : Int) then
         if (0 : Int) ≤ (0 : Int) ∧ (0 : Int) < (a0.length : Int) then
          let x26 : Int := (IntKind.u64.wrap (4294967295 - (IntKind.u64.wrap (40 * (a0.getD 0 0)))))
          if (decide ((a0.getD 1 0) > x26)) = true then
           some ((Tree.node 0 ([] : List Int) ([] : List Tree)), 127)
          else
           if (0 : Int) ≤ (1 : Int) ∧ (1 : Int) ≤ (a0.length : Int) then
            (loopO stepc108_0 (a0, (a0.drop 1), ((a0.drop 1).length : Int), 0, (0, (), ()), ([] : List Int))).bind fun
             | (.inl (z27, z28)) =>
              some ((Tree.node z28.1 ([] : List Int) ([] : List Tree)), z27)
             | (.inr (z29, z30)) =>
              some ((Tree.node 6 z30 ([] : List Tree)), 0)
           else none
         else none
        else none
      else none
     else
      some ((Tree.node 0 ([] : List Int) ([] : List Tree)), 127)
    else none
   else
    some ((Tree.node 0 ([] : List Int) ([] : List Tree)), 127)
  else
   some ((Tree.node 0 ([] : List Int) ([] : List Tree)), 127)

noncomputable def annc108 : Ann := (.seq .none (.seq .none (.seq .none (.seq (.seq .none (.seq (.cut (cutEnt lc108_0 oc108_0 (loopO (stepc108_0)))) .none)) .none))))
theorem eqc108_1 : ∀ s : lc108_1.T, exec ctab (ofL Ec47) 92 (Code.at' [1, 1, 1, 0, 1, 0, 0, 1, 1, 0, 0, 1, 1, 1, 1, 1, 0, 1, 0, 0] bodyc108) annc108_1 (fun e st => loopEnd (l := lc108_1) (outs := oc108_1) e st) (lc108_1.enc s) = stepc108_1 s := by
  rintro ⟨t0, t6, t7, t47, t48, t49, r2, r72⟩
  kernel_rfl
theorem okc108_1 : LOk Try.prog 92 (cutEnt lc108_1 oc108_1 (loopO stepc108_1)) (Code.at' [1, 1, 1, 0, 1, 0, 0, 1, 1, 0, 0, 1, 1, 1, 1, 1, 0, 1, 0] bodyc108) := by
  have e : Code.at' [1, 1, 1, 0, 1, 0, 0, 1, 1, 0, 0, 1, 1, 1, 1, 1, 0, 1, 0] bodyc108 = .loop (Code.at' [1, 1, 1, 0, 1, 0, 0, 1, 1, 0, 0, 1, 1, 1, 1, 1, 0, 1, 0, 0] bodyc108) := by kernel_rfl
  rw [e]
  refine loop_ok cc108 92 rfl rfl (annOk_of_cuts ?_) eqc108_1
  intro x hx
  exact absurd hx (by show x ∉ ([] : List (List Nat × LEnt)); simp)

theorem eqc108_0 : ∀ s : lc108_0.T, exec ctab (ofL Ec47) 92 (Code.at' [1, 1, 1, 0, 1, 0, 0] bodyc108) annc108_0 (fun e st => loopEnd (l := lc108_0) (outs := oc108_0) e st) (lc108_0.enc s) = stepc108_0 s := by
  rintro ⟨t0, t47, t48, t49, r2, r4⟩
  kernel_rfl
theorem okc108_0 : LOk Try.prog 92 (cutEnt lc108_0 oc108_0 (loopO stepc108_0)) (Code.at' [1, 1, 1, 0, 1, 0] bodyc108) := by
  have e : Code.at' [1, 1, 1, 0, 1, 0] bodyc108 = .loop (Code.at' [1, 1, 1, 0, 1, 0, 0] bodyc108) := by kernel_rfl
  rw [e]
  refine loop_ok cc108 92 rfl rfl (annOk_of_cuts ?_) eqc108_0
  have hc : Ann.cuts annc108_0 = [([1, 1, 0, 0, 1, 1, 1, 1, 1, 0, 1, 0], (cutEnt lc108_1 oc108_1 (loopO (stepc108_1))))] := by kernel_rfl
  rw [hc]
  intro x hx
  simp only [List.mem_cons, List.not_mem_nil, or_false] at hx
  rcases hx with rfl
  · have e : Code.at' [1, 1, 0, 0, 1, 1, 1, 1, 1, 0, 1, 0] (Code.at' [1, 1, 1, 0, 1, 0, 0] bodyc108) = Code.at' [1, 1, 1, 0, 1, 0, 0, 1, 1, 0, 0, 1, 1, 1, 1, 1, 0, 1, 0] bodyc108 := by kernel_rfl
    rw [e]; exact okc108_1

theorem eqc108 : ∀ x : Sc108.inT, exec ctab (ofL Ec47) 92 bodyc108 annc108 (finL ctab Sc108) (Sc108.inp.enc x) = Fc108 x := by
  intro x
  kernel_rfl
theorem callsc108 : CallsL Try.prog 108 Sc108 Fc108 := by
  refine fun_callsL (fn := Try.f108) (c := bodyc108) (ann := annc108) cc108 (by kernel_rfl) (by kernel_rfl) (by kernel_rfl) (by kernel_rfl) (by kernel_rfl) (annOk_of_cuts ?_) eqc108
  have hc : Ann.cuts annc108 = [([1, 1, 1, 0, 1, 0], (cutEnt lc108_0 oc108_0 (loopO (stepc108_0))))] := by kernel_rfl
  rw [hc]
  intro x hx
  simp only [List.mem_cons, List.not_mem_nil, or_false] at hx
  rcases hx with rfl
  · have e : Code.at' [1, 1, 1, 0, 1, 0] bodyc108 = Code.at' [1, 1, 1, 0, 1, 0] bodyc108 := by kernel_rfl
    rw [e]; exact okc108_0

theorem entc108 : EntOk Try.prog 108 (funEntL Sc108 true Fc108) := fun_okL (fn := Try.f108) (c := bodyc108) (by kernel_rfl) (by kernel_rfl) (by kernel_rfl) (by kernel_rfl) callsc108
noncomputable def Ec108 : List (Nat × Ent) := (108, (funEntL Sc108 true Fc108)) :: Ec47
theorem Ec108_ok : EntsOk Try.prog (ofL Ec108) := .cons entc108 Ec47_ok

/-! ### barbican/cert.object -/
noncomputable def bodyc85 : Code := (Try.f85.body).getD .skip
abbrev Sc85 : FL := ⟨⟨[], [.env 0 (.c (.fz (.int .u64)))], []⟩, 1, [(.ret, ⟨[], [.env 0 (.dat .item)], []⟩)], [.cell 2 58], true⟩
noncomputable def cc85 : Ctx Try.prog := ⟨ctab, ofL Ec108, ctabOk, Ec108_ok, cdep, cord⟩
noncomputable def Fc85 : (List Int) → Option ((Tree))
  | a0 =>
  (Fc108 a0).bind fun (y1, y2) =>
   some (Tree.node y1.tag y1.body y1.kids)

noncomputable def annc85 : Ann := .none
theorem eqc85 : ∀ x : Sc85.inT, exec ctab (ofL Ec108) 11 bodyc85 annc85 (finL ctab Sc85) (Sc85.inp.enc x) = Fc85 x := by
  intro x
  kernel_rfl
theorem callsc85 : CallsL Try.prog 85 Sc85 Fc85 := by
  refine fun_callsL (fn := Try.f85) (c := bodyc85) (ann := annc85) cc85 (by kernel_rfl) (by kernel_rfl) (by kernel_rfl) (by kernel_rfl) (by kernel_rfl) (annOk_of_cuts ?_) eqc85
  intro x hx
  exact absurd hx (by show x ∉ ([] : List (List Nat × LEnt)); simp)

theorem entc85 : EntOk Try.prog 85 (funEntL Sc85 true Fc85) := fun_okL (fn := Try.f85) (c := bodyc85) (by kernel_rfl) (by kernel_rfl) (by kernel_rfl) (by kernel_rfl) callsc85
noncomputable def Ec85 : List (Nat × Ent) := (85, (funEntL Sc85 true Fc85)) :: Ec108
theorem Ec85_ok : EntsOk Try.prog (ofL Ec85) := .cons entc85 Ec108_ok

/-! ### barbican/cert.alg -/
noncomputable def bodyc48 : Code := (Try.f48.body).getD .skip
abbrev Sc48 : FL := ⟨⟨[], [], []⟩, 0, [(.ret, ⟨[], [.env 0 (.dat .item)], []⟩)], [.cell 0 58], true⟩
noncomputable def cc48 : Ctx Try.prog := ⟨ctab, ofL Ec85, ctabOk, Ec85_ok, cdep, cord⟩
noncomputable def Fc48 : Unit → Option ((Tree))
  | _ =>
  let f1 : List Int := ((((((((((List.replicate 9 (0 : Int)).set 0 1).set 1 3).set 2 6).set 3 1).set 4 4).set 5 1).set 6 4128).set 7 2200).set 8 1)
  (Fc85 f1).bind fun y2 =>
   (Fc47 (48, ([(Tree.node y2.tag y2.body y2.kids)] : List Tree))).bind fun (y3, y4) =>
    some (Tree.node y3.1 ([] : List Int) y4)

noncomputable def annc48 : Ann := .none
theorem eqc48 : ∀ x : Sc48.inT, exec ctab (ofL Ec85) 5 bodyc48 annc48 (finL ctab Sc48) (Sc48.inp.enc x) = Fc48 x := by
  intro x
  kernel_rfl
theorem callsc48 : CallsL Try.prog 48 Sc48 Fc48 := by
  refine fun_callsL (fn := Try.f48) (c := bodyc48) (ann := annc48) cc48 (by kernel_rfl) (by kernel_rfl) (by kernel_rfl) (by kernel_rfl) (by kernel_rfl) (annOk_of_cuts ?_) eqc48
  intro x hx
  exact absurd hx (by show x ∉ ([] : List (List Nat × LEnt)); simp)

theorem entc48 : EntOk Try.prog 48 (funEntL Sc48 true Fc48) := fun_okL (fn := Try.f48) (c := bodyc48) (by kernel_rfl) (by kernel_rfl) (by kernel_rfl) (by kernel_rfl) callsc48
noncomputable def Ec48 : List (Nat × Ent) := (48, (funEntL Sc48 true Fc48)) :: Ec85
theorem Ec48_ok : EntsOk Try.prog (ofL Ec48) := .cons entc48 Ec85_ok

/-! ### barbican/cert.plain -/
noncomputable def bodyc87 : Code := (Try.f87.body).getD .skip
abbrev Sc87 : FL := ⟨⟨[], [.env 0 (.c (.int .u8)), .env 1 (.c (.str))], []⟩, 2, [(.ret, ⟨[], [.env 0 (.dat .item)], []⟩)], [.cell 4 58], true⟩
noncomputable def cc87 : Ctx Try.prog := ⟨ctab, ofL Ec48, ctabOk, Ec48_ok, cdep, cord⟩
noncomputable def Fc87 : Int × ByteArray → Option ((Tree))
  | (a0, a1) =>
  some (Tree.node a0 (toBytes a1) ([] : List Tree))

noncomputable def annc87 : Ann := .none
theorem eqc87 : ∀ x : Sc87.inT, exec ctab (ofL Ec48) 9 bodyc87 annc87 (finL ctab Sc87) (Sc87.inp.enc x) = Fc87 x := by
  rintro ⟨a0, a1⟩
  kernel_rfl
theorem callsc87 : CallsL Try.prog 87 Sc87 Fc87 := by
  refine fun_callsL (fn := Try.f87) (c := bodyc87) (ann := annc87) cc87 (by kernel_rfl) (by kernel_rfl) (by kernel_rfl) (by kernel_rfl) (by kernel_rfl) (annOk_of_cuts ?_) eqc87
  intro x hx
  exact absurd hx (by show x ∉ ([] : List (List Nat × LEnt)); simp)

theorem entc87 : EntOk Try.prog 87 (funEntL Sc87 true Fc87) := fun_okL (fn := Try.f87) (c := bodyc87) (by kernel_rfl) (by kernel_rfl) (by kernel_rfl) (by kernel_rfl) callsc87
noncomputable def Ec87 : List (Nat × Ent) := (87, (funEntL Sc87 true Fc87)) :: Ec48
theorem Ec87_ok : EntsOk Try.prog (ofL Ec87) := .cons entc87 Ec48_ok

/-! ### barbican/cert.name -/
noncomputable def bodyc84 : Code := (Try.f84.body).getD .skip
abbrev Sc84 : FL := ⟨⟨[], [.env 0 (.c (.str))], []⟩, 1, [(.ret, ⟨[], [.env 0 (.dat .item)], []⟩)], [.cell 2 58], true⟩
noncomputable def cc84 : Ctx Try.prog := ⟨ctab, ofL Ec87, ctabOk, Ec87_ok, cdep, cord⟩
noncomputable def Fc84 : ByteArray → Option ((Tree))
  | a0 =>
  let f1 : List Int := (((((List.replicate 4 (0 : Int)).set 0 2).set 1 5).set 2 4).set 3 3)
  (Fc85 f1).bind fun y2 =>
   (Fc87 (12, a0)).bind fun y3 =>
    let f4 : List Tree := ([(Tree.node y2.tag y2.body y2.kids), (Tree.node y3.tag y3.body y3.kids)] : List Tree)
    (Fc47 (48, f4)).bind fun (y5, y6) =>
     (Fc47 (49, ([(Tree.node y5.1 ([] : List Int) y6)] : List Tree))).bind fun (y7, y8) =>
      (Fc47 (48, ([(Tree.node y7.1 ([] : List Int) y8)] : List Tree))).bind fun (y9, y10) =>
       some (Tree.node y9.1 ([] : List Int) y10)

noncomputable def annc84 : Ann := .none
theorem eqc84 : ∀ x : Sc84.inT, exec ctab (ofL Ec87) 13 bodyc84 annc84 (finL ctab Sc84) (Sc84.inp.enc x) = Fc84 x := by
  intro x
  kernel_rfl
theorem callsc84 : CallsL Try.prog 84 Sc84 Fc84 := by
  refine fun_callsL (fn := Try.f84) (c := bodyc84) (ann := annc84) cc84 (by kernel_rfl) (by kernel_rfl) (by kernel_rfl) (by kernel_rfl) (by kernel_rfl) (annOk_of_cuts ?_) eqc84
  intro x hx
  exact absurd hx (by show x ∉ ([] : List (List Nat × LEnt)); simp)

theorem entc84 : EntOk Try.prog 84 (funEntL Sc84 true Fc84) := fun_okL (fn := Try.f84) (c := bodyc84) (by kernel_rfl) (by kernel_rfl) (by kernel_rfl) (by kernel_rfl) callsc84
noncomputable def Ec84 : List (Nat × Ent) := (84, (funEntL Sc84 true Fc84)) :: Ec87
theorem Ec84_ok : EntsOk Try.prog (ofL Ec84) := .cons entc84 Ec87_ok

/-! ### barbican/cert.times -/
noncomputable def bodyc75 : Code := (Try.f75.body).getD .skip
abbrev Sc75 : FL := ⟨⟨[], [], []⟩, 0, [(.ret, ⟨[], [.env 0 (.dat .item)], []⟩)], [.cell 0 58], true⟩
noncomputable def cc75 : Ctx Try.prog := ⟨ctab, ofL Ec84, ctabOk, Ec84_ok, cdep, cord⟩
noncomputable def Fc75 : Unit → Option ((Tree))
  | _ =>
  (Fc87 (24, cstr0)).bind fun y1 =>
   (Fc87 (24, cstr1)).bind fun y2 =>
    let f3 : List Tree := ([(Tree.node y1.tag y1.body y1.kids), (Tree.node y2.tag y2.body y2.kids)] : List Tree)
    (Fc47 (48, f3)).bind fun (y4, y5) =>
     some (Tree.node y4.1 ([] : List Int) y5)

noncomputable def annc75 : Ann := .none
theorem eqc75 : ∀ x : Sc75.inT, exec ctab (ofL Ec84) 5 bodyc75 annc75 (finL ctab Sc75) (Sc75.inp.enc x) = Fc75 x := by
  intro x
  kernel_rfl
theorem callsc75 : CallsL Try.prog 75 Sc75 Fc75 := by
  refine fun_callsL (fn := Try.f75) (c := bodyc75) (ann := annc75) cc75 (by kernel_rfl) (by kernel_rfl) (by kernel_rfl) (by kernel_rfl) (by kernel_rfl) (annOk_of_cuts ?_) eqc75
  intro x hx
  exact absurd hx (by show x ∉ ([] : List (List Nat × LEnt)); simp)

theorem entc75 : EntOk Try.prog 75 (funEntL Sc75 true Fc75) := fun_okL (fn := Try.f75) (c := bodyc75) (by kernel_rfl) (by kernel_rfl) (by kernel_rfl) (by kernel_rfl) callsc75
noncomputable def Ec75 : List (Nat × Ent) := (75, (funEntL Sc75 true Fc75)) :: Ec84
theorem Ec75_ok : EntsOk Try.prog (ofL Ec75) := .cons entc75 Ec84_ok

/-! ### barbican/der.OfBits -/
noncomputable def bodyc49 : Code := (Try.f49.body).getD .skip
abbrev Sc49 : FL := ⟨⟨[], [.env 0 (.c (.fz (.int .u8)))], []⟩, 1, [(.ret, ⟨[], [.env 0 (.dat .item)], []⟩)], [.cell 2 58], true⟩
noncomputable def cc49 : Ctx Try.prog := ⟨ctab, ofL Ec75, ctabOk, Ec75_ok, cdep, cord⟩
noncomputable def Fc49 : (List Int) → Option ((Tree))
  | a0 =>
  if okBytes (((List.replicate 1 (0 : Int)).set 0 0).length + a0.length) 1 then
   some (Tree.node 3 (((List.replicate 1 (0 : Int)).set 0 0) ++ a0) ([] : List Tree))
  else none

noncomputable def annc49 : Ann := .none
theorem eqc49 : ∀ x : Sc49.inT, exec ctab (ofL Ec75) 7 bodyc49 annc49 (finL ctab Sc49) (Sc49.inp.enc x) = Fc49 x := by
  intro x
  kernel_rfl
theorem callsc49 : CallsL Try.prog 49 Sc49 Fc49 := by
  refine fun_callsL (fn := Try.f49) (c := bodyc49) (ann := annc49) cc49 (by kernel_rfl) (by kernel_rfl) (by kernel_rfl) (by kernel_rfl) (by kernel_rfl) (annOk_of_cuts ?_) eqc49
  intro x hx
  exact absurd hx (by show x ∉ ([] : List (List Nat × LEnt)); simp)

theorem entc49 : EntOk Try.prog 49 (funEntL Sc49 true Fc49) := fun_okL (fn := Try.f49) (c := bodyc49) (by kernel_rfl) (by kernel_rfl) (by kernel_rfl) (by kernel_rfl) callsc49
noncomputable def Ec49 : List (Nat × Ent) := (49, (funEntL Sc49 true Fc49)) :: Ec75
theorem Ec49_ok : EntsOk Try.prog (ofL Ec49) := .cons entc49 Ec75_ok

/-! ### barbican/der.OfBool -/
noncomputable def bodyc86 : Code := (Try.f86.body).getD .skip
abbrev Sc86 : FL := ⟨⟨[], [.env 0 (.c (.bool))], []⟩, 1, [(.ret, ⟨[], [.env 0 (.dat .item)], []⟩)], [.cell 2 58], true⟩
noncomputable def cc86 : Ctx Try.prog := ⟨ctab, ofL Ec49, ctabOk, Ec49_ok, cdep, cord⟩
noncomputable def Fc86 : Bool → Option ((Tree))
  | a0 =>
  if a0 = true then
   some (Tree.node 1 ((List.replicate 1 (0 : Int)).set 0 255) ([] : List Tree))
  else
   some (Tree.node 1 ((List.replicate 1 (0 : Int)).set 0 0) ([] : List Tree))

noncomputable def annc86 : Ann := .none
theorem eqc86 : ∀ x : Sc86.inT, exec ctab (ofL Ec49) 10 bodyc86 annc86 (finL ctab Sc86) (Sc86.inp.enc x) = Fc86 x := by
  intro x
  kernel_rfl
theorem callsc86 : CallsL Try.prog 86 Sc86 Fc86 := by
  refine fun_callsL (fn := Try.f86) (c := bodyc86) (ann := annc86) cc86 (by kernel_rfl) (by kernel_rfl) (by kernel_rfl) (by kernel_rfl) (by kernel_rfl) (annOk_of_cuts ?_) eqc86
  intro x hx
  exact absurd hx (by show x ∉ ([] : List (List Nat × LEnt)); simp)

theorem entc86 : EntOk Try.prog 86 (funEntL Sc86 true Fc86) := fun_okL (fn := Try.f86) (c := bodyc86) (by kernel_rfl) (by kernel_rfl) (by kernel_rfl) (by kernel_rfl) callsc86
noncomputable def Ec86 : List (Nat × Ent) := (86, (funEntL Sc86 true Fc86)) :: Ec49
theorem Ec86_ok : EntsOk Try.prog (ofL Ec86) := .cons entc86 Ec49_ok

/-! ### barbican/cert.tbs -/
noncomputable def bodyc46 : Code := (Try.f46.body).getD .skip
abbrev Sc46 : FL := ⟨⟨[], [.env 0 (.c (.fzp (.pair (.int .u64) (.pair .str (.pair .str (.pair (.sl (.int .u8)) (.pair (.sl (.pair (.int .i64) (.pair .bool (.sl (.int .u8))))) (.sl (.int .u8)))))))))], []⟩, 1, [(.ret, ⟨[], [.env 0 (.dat .item)], []⟩)], [.cell 2 58], true⟩
noncomputable def cc46 : Ctx Try.prog := ⟨ctab, ofL Ec86, ctabOk, Ec86_ok, cdep, cord⟩
abbrev lc46_0 : Lay := ⟨[(2, .ptr 2 0 3), (3, .ptr 3 0 3), (4, .full 500256)], [.env 48 (.c (.fz (.pair (.int .i64) (.pair .bool (.sl (.int .u8)))))), .env 49 (.c (.int .i64)), .env 50 (.c (.int .i64)), .reg 500256 (.rowd 58 .item), .reg 2 (.cells [.int .u8, .nils, .nils]), .reg 3 (.cells [.int .u8, .nils, .full 36]), .reg 36 (.rowd 58 .item)], [(2, .env 2 0), (3, .env 3 0), (500256, .env 4 0), (36, .reg 3 2)]⟩
abbrev oc46_0 : List (AExit × Lay) := [(.exit 0, ⟨[(2, .ptr 2 0 3), (3, .ptr 3 0 3), (4, .full 500256)], [.reg 2 (.cells [.int .u8, .nils, .nils]), .reg 3 (.cells [.int .u8, .nils, .full 36]), .reg 500256 (.rowd 58 .item), .reg 36 (.rowd 58 .item)], [(2, .env 2 0), (3, .env 3 0), (500256, .env 4 0), (36, .reg 3 2)]⟩)]
noncomputable def stepc46_0 : (List (Int × (Bool × (List Int)))) × Int × Int × List Tree × (Int × Unit × Unit) × (Int × Unit × Unit) × List Tree → Option (((List (Int × (Bool × (List Int)))) × Int × Int × List Tree × (Int × Unit × Unit) × (Int × Unit × Unit) × List Tree) ⊕ (((Int × Unit × Unit) × (Int × Unit × Unit) × List Tree × List Tree)))
  | (t48, t49, t50, r500256, r2, r3, r36) =>
  if (decide (t50 < t49)) = true then
   if (0 : Int) ≤ t50 ∧ t50 < (t48.length : Int) then
    let x17 : Int := (t48.getD t50.toNat (DT.dflt (.pair (.int .i64) (.pair .bool (.sl (.int .u8)))))).1
    let x18 : Bool := (t48.getD t50.toNat (DT.dflt (.pair (.int .i64) (.pair .bool (.sl (.int .u8)))))).2.1
    let f19 : List Int := (t48.getD t50.toNat (DT.dflt (.pair (.int .i64) (.pair .bool (.sl (.int .u8)))))).2.2
    let f20 : List Int := ((((((((((List.replicate 9 (0 : Int)).set 0 1).set 1 3).set 2 6).set 3 1).set 4 4).set 5 1).set 6 4128).set 7 2100).set 8 (IntKind.u64.wrap x17))
    (Fc85 f20).bind fun y21 =>
     (Fc47 (48, ([(Tree.node y21.tag y21.body y21.kids)] : List Tree))).bind fun (y22, y23) =>
      if x18 = true then
       (Fc86 true).bind fun y24 =>
        if okBytes (y23.length + ([(Tree.node y24.tag y24.body y24.kids)] : List Tree).length) 56 then
         let f25 : List Tree := (y23 ++ ([(Tree.node y24.tag y24.body y24.kids)] : List Tree))
         (Fc87 (4, (ofBytes f19))).bind fun y26 =>
          if okBytes (f25.length + ([(Tree.node y26.tag y26.body y26.kids)] : List Tree).length) 56 then
           let f27 : List Tree := (f25 ++ ([(Tree.node y26.tag y26.body y26.kids)] : List Tree))
           (Fc47 (48, f27)).bind fun (y28, y29) =>
            if okBytes (r500256.length + ([(Tree.node y28.1 ([] : List Int) y29)] : List Tree).length) 56 then
             let f30 : List Tree := (r500256 ++ ([(Tree.node y28.1 ([] : List Int) y29)] : List Tree))
             some (.inl (t48, t49, (IntKind.i64.wrap (t50 + 1)), f30, (r2.1, (), ()), (r3.1, (), ()), r36))
            else none
          else none
        else none
      else
       (Fc87 (4, (ofBytes f19))).bind fun y31 =>
        if okBytes (y23.length + ([(Tree.node y31.tag y31.body y31.kids)] : List Tree).length) 56 then
         let f32 : List Tree := (y23 ++ ([(Tree.node y31.tag y31.body y31.kids)] : List Tree))
         (Fc47 (48, f32)).bind fun (y33, y34) =>
          if okBytes (r500256.length + ([(Tree.node y33.1 ([] : List Int) y34)] : List Tree).length) 56 then
           let f35 : List Tree := (r500256 ++ ([(Tree.node y33.1 ([] : List Int) y34)] : List Tree))
           some (.inl (t48, t49, (IntKind.i64.wrap (t50 + 1)), f35, (r2.1, (), ()), (r3.1, (), ()), r36))
          else none
        else none
   else none
  else
   some (.inr ((r2.1, (), ()), (r3.1, (), ()), r500256, r36))

noncomputable def annc46_0 : Ann := .none
noncomputable def Fc46 : (Int × (ByteArray × (ByteArray × ((List Int) × ((List (Int × (Bool × (List Int)))) × (List Int)))))) → Option ((Tree))
  | a0 =>
  (Fc83 2).bind fun y1 =>
   (Fc47 (160, ([(Tree.node y1.tag y1.body y1.kids)] : List Tree))).bind fun (y2, y3) =>
    (Fc83 a0.1).bind fun y4 =>
     (Fc48 ()).bind fun y5 =>
      (Fc84 a0.2.1).bind fun y6 =>
       (Fc75 ()).bind fun y7 =>
        (Fc84 a0.2.2.1).bind fun y8 =>
         (Fc48 ()).bind fun y9 =>
          (Fc49 a0.2.2.2.1).bind fun y10 =>
           let f11 : List Tree := ([(Tree.node y9.tag y9.body y9.kids), (Tree.node y10.tag y10.body y10.kids)] : List Tree)
           (Fc47 (48, f11)).bind fun (y12, y13) =>
            let f14 : List Tree := ([(Tree.node y2.1 ([] : List Int) y3), (Tree.node y4.tag y4.body y4.kids), (Tree.node y5.tag y5.body y5.kids), (Tree.node y6.tag y6.body y6.kids), (Tree.node y7.tag y7.body y7.kids), (Tree.node y8.tag y8.body y8.kids), (Tree.node y12.1 ([] : List Int) y13)] : List Tree)
            (Fc47 (48, f14)).bind fun (y15, y16) =>
             if ((a0.2.2.2.2.1.length : Int) == 0) = true then
              some (Tree.node y15.1 ([] : List Int) y16)
             else
              (loopO stepc46_0 (a0.2.2.2.2.1, (a0.2.2.2.2.1.length : Int), 0, ([] : List Tree), (0, (), ()), (y15.1, (), ()), y16)).bind fun (z36, z37, z38, z39) =>
               (Fc47 (48, z38)).bind fun (y40, y41) =>
                (Fc47 (163, ([(Tree.node y40.1 ([] : List Int) y41)] : List Tree))).bind fun (y42, y43) =>
                 if okBytes (z39.length + ([(Tree.node y42.1 ([] : List Int) y43)] : List Tree).length) 56 then
                  let f44 : List Tree := (z39 ++ ([(Tree.node y42.1 ([] : List Int) y43)] : List Tree))
                  some (Tree.node z37.1 ([] : List Int) f44)
                 else none

noncomputable def annc46 : Ann := (.seq .none (.seq .none (.seq .none (.seq .none (.seq (.seq .none (.seq (.cut (cutEnt lc46_0 oc46_0 (loopO (stepc46_0)))) .none)) .none)))))
theorem eqc46_0 : ∀ s : lc46_0.T, exec ctab (ofL Ec86) 92 (Code.at' [1, 1, 1, 1, 0, 1, 0, 0] bodyc46) annc46_0 (fun e st => loopEnd (l := lc46_0) (outs := oc46_0) e st) (lc46_0.enc s) = stepc46_0 s := by
  rintro ⟨t48, t49, t50, r500256, r2, r3, r36⟩
  kernel_rfl
theorem okc46_0 : LOk Try.prog 92 (cutEnt lc46_0 oc46_0 (loopO stepc46_0)) (Code.at' [1, 1, 1, 1, 0, 1, 0] bodyc46) := by
  have e : Code.at' [1, 1, 1, 1, 0, 1, 0] bodyc46 = .loop (Code.at' [1, 1, 1, 1, 0, 1, 0, 0] bodyc46) := by kernel_rfl
  rw [e]
  refine loop_ok cc46 92 rfl rfl (annOk_of_cuts ?_) eqc46_0
  intro x hx
  exact absurd hx (by show x ∉ ([] : List (List Nat × LEnt)); simp)

theorem eqc46 : ∀ x : Sc46.inT, exec ctab (ofL Ec86) 92 bodyc46 annc46 (finL ctab Sc46) (Sc46.inp.enc x) = Fc46 x := by
  intro x
  kernel_rfl
theorem callsc46 : CallsL Try.prog 46 Sc46 Fc46 := by
  refine fun_callsL (fn := Try.f46) (c := bodyc46) (ann := annc46) cc46 (by kernel_rfl) (by kernel_rfl) (by kernel_rfl) (by kernel_rfl) (by kernel_rfl) (annOk_of_cuts ?_) eqc46
  have hc : Ann.cuts annc46 = [([1, 1, 1, 1, 0, 1, 0], (cutEnt lc46_0 oc46_0 (loopO (stepc46_0))))] := by kernel_rfl
  rw [hc]
  intro x hx
  simp only [List.mem_cons, List.not_mem_nil, or_false] at hx
  rcases hx with rfl
  · have e : Code.at' [1, 1, 1, 1, 0, 1, 0] bodyc46 = Code.at' [1, 1, 1, 1, 0, 1, 0] bodyc46 := by kernel_rfl
    rw [e]; exact okc46_0

theorem entc46 : EntOk Try.prog 46 (funEntL Sc46 true Fc46) := fun_okL (fn := Try.f46) (c := bodyc46) (by kernel_rfl) (by kernel_rfl) (by kernel_rfl) (by kernel_rfl) callsc46
noncomputable def Ec46 : List (Nat × Ent) := (46, (funEntL Sc46 true Fc46)) :: Ec86
theorem Ec46_ok : EntsOk Try.prog (ofL Ec46) := .cons entc46 Ec86_ok

/-! ### barbican/der.refuse -/
abbrev Sc69 : FL := ⟨⟨[], [.env 0 (.c (.int .i64))], []⟩, 1, [(.panic 125 0, ⟨[], [], []⟩)], [], false⟩
noncomputable def Fc69 : Int → Option (Int × Unit) := fun x => some (x, ())
noncomputable def bodyc69 : Code := (Try.f69.body).getD .skip
noncomputable def opsc69 : Array Oper := opsOf bodyc69
theorem callsc69 : CallsL Try.prog 69 Sc69 Fc69 := by
  intro us x y w fp β hlen hdfs hF R
  match us, hlen with
  | [v], _ =>
  have hv : v = .int .i64 x := by
    have := R.env 0 _ rfl
    simp only [AVRel, CVRel] at this
    exact this
  subst hv
  cases hF
  refine calls_of_wp (fn := Try.f69) (c := bodyc69) (by kernel_rfl) (by kernel_rfl) ?_
  have hb : bodyc69 = .region 0 opsc69 false := by kernel_rfl
  rw [hb]
  refine wp_region ?_
  have hs : List.range opsc69.size = [0, 1, 2, 3] := by kernel_rfl
  rw [hs]
  refine wpOps_val (o := opAt opsc69 0) (v := .int .i64 x) (w' := w) (by kernel_rfl) (by kernel_rfl) (by kernel_rfl) ?_
  refine wpOps_val (o := opAt opsc69 1) (v := .agg #[.int .i64 x]) (w' := w) (by kernel_rfl) (by kernel_rfl) (by kernel_rfl) ?_
  refine wpOps_val (o := opAt opsc69 2) (v := .iface 125 (.agg #[.int .i64 x])) (w' := w) (by kernel_rfl) (by kernel_rfl) (by kernel_rfl) ?_
  refine wpOps_halt (o := opAt opsc69 3) (v := .iface 125 (.agg #[.int .i64 x])) (w' := w) (by kernel_rfl) (by kernel_rfl) (by kernel_rfl) ?_
  have hfp : fp = ⟨fp.anc, fp.hb, []⟩ := by cases fp; simp only at hdfs; subst hdfs; rfl
  have R2 : Rel Try.prog w fp 0 β { env := fun _ => none, heap := (Sc69.inp.enc x).heap } { tmps := #[], defers := [] } w := by
    rw [hfp]
    exact (hfp ▸ R).act rfl rfl (Nat.zero_le _) (fun t av ht => by cases ht)
  exact ⟨rfl, β, [], R2, rfl, fun h => absurd rfl (h 125 x)⟩
theorem entc69 : EntOk Try.prog 69 (funEntL Sc69 true Fc69) := fun_okL (fn := Try.f69) (c := bodyc69) (by kernel_rfl) (by kernel_rfl) (by kernel_rfl) (by kernel_rfl) callsc69

noncomputable def Ec69 : List (Nat × Ent) := (69, funEntL Sc69 true Fc69) :: Ec46
theorem Ec69_ok : EntsOk Try.prog (ofL Ec69) := .cons entc69 Ec46_ok

/-! ### barbican/der.built -/
noncomputable def bodyc99 : Code := (Try.f99.body).getD .skip
abbrev Sc99 : FL := ⟨⟨[], [.env 0 (.c (.int .u8))], []⟩, 1, [(.ret, ⟨[], [.env 0 (.c (.bool))], []⟩)], [.tmp 2], false⟩
noncomputable def cc99 : Ctx Try.prog := ⟨ctab, ofL Ec69, ctabOk, Ec69_ok, cdep, cord⟩
noncomputable def Fc99 : Int → Option ((Bool))
  | a0 =>
  some ((bitsAnd .u8 a0 32) != 0)

noncomputable def annc99 : Ann := .none
theorem eqc99 : ∀ x : Sc99.inT, exec ctab (ofL Ec69) 6 bodyc99 annc99 (finL ctab Sc99) (Sc99.inp.enc x) = Fc99 x := by
  intro x
  kernel_rfl
theorem callsc99 : CallsL Try.prog 99 Sc99 Fc99 := by
  refine fun_callsL (fn := Try.f99) (c := bodyc99) (ann := annc99) cc99 (by kernel_rfl) (by kernel_rfl) (by kernel_rfl) (by kernel_rfl) (by kernel_rfl) (annOk_of_cuts ?_) eqc99
  intro x hx
  exact absurd hx (by show x ∉ ([] : List (List Nat × LEnt)); simp)

theorem entc99 : EntOk Try.prog 99 (funEntL Sc99 true Fc99) := fun_okL (fn := Try.f99) (c := bodyc99) (by kernel_rfl) (by kernel_rfl) (by kernel_rfl) (by kernel_rfl) callsc99
noncomputable def Ec99 : List (Nat × Ent) := (99, (funEntL Sc99 true Fc99)) :: Ec69
theorem Ec99_ok : EntsOk Try.prog (ofL Ec99) := .cons entc99 Ec69_ok

/-! ### barbican/der.look -/
noncomputable def bodyc81 : Code := (Try.f81.body).getD .skip
abbrev Sc81 : FL := ⟨⟨[], [.env 0 (.c (.fzp .item)), .env 1 (.c (.int .i64))], []⟩, 2, [(.ret, ⟨[], [], []⟩), (.panic 125 0, ⟨[], [], []⟩)], [], false⟩
noncomputable def cc81 (G : Sc81.inT → Option Sc81.outT) (hG : CallsL Try.prog 81 Sc81 G) : Ctx Try.prog := ⟨ctab, ofL ((81, funEntL Sc81 true G) :: Ec99), ctabOk, .cons (fun_okL (fn := Try.f81) (c := bodyc81) (by kernel_rfl) (by kernel_rfl) (by kernel_rfl) (by kernel_rfl) hG) Ec99_ok, cdep, cord⟩
abbrev lc81_0 : Lay := ⟨[], [.env 0 (.c (.fzp (.pair (.int .u8) (.pair (.sl (.int .u8)) (.sl .item))))), .env 1 (.c (.int .i64)), .env 52 (.c (.int .i64)), .env 53 (.c (.int .i64))], []⟩
abbrev oc81_0 : List (AExit × Lay) := [(.panic 125 0, ⟨[], [], []⟩), (.exit 1, ⟨[], [], []⟩)]
noncomputable def stepc81_0 (G : Tree × Int → Option ((Unit) ⊕ (Int × (Unit)))) : (Int × ((List Int) × (List Tree))) × Int × Int × Int → Option (((Int × ((List Int) × (List Tree))) × Int × Int × Int) ⊕ ((Int × (Unit)) ⊕ (Unit)))
  | (t0, t1, t52, t53) =>
  if (decide (t53 < t52)) = true then
   if (0 : Int) ≤ t53 ∧ t53 < (t0.2.2.length : Int) then
    (G ((Tree.node (t0.2.2.getD t53.toNat (DT.dflt .item)).tag (t0.2.2.getD t53.toNat (DT.dflt .item)).body (t0.2.2.getD t53.toNat (DT.dflt .item)).kids), (IntKind.i64.wrap (t1 + 1)))).bind fun
     | (.inl _) =>
      some (.inl ((t0.1, (t0.2.1, t0.2.2)), t1, t52, (IntKind.i64.wrap (t53 + 1))))
     | (.inr (e6, _)) =>
      some (.inr (.inl (e6, ())))
   else none
  else
   some (.inr (.inr ()))

noncomputable def annc81_0 (G : Tree × Int → Option ((Unit) ⊕ (Int × (Unit)))) : Ann := .none
noncomputable def Bc81 (G : Tree × Int → Option ((Unit) ⊕ (Int × (Unit)))) : Tree × Int → Option ((Unit) ⊕ (Int × (Unit)))
  | (a0, a1) =>
  if (decide (a1 > 16)) = true then
   (Fc69 125).bind fun (e1, _) =>
    some (.inr (e1, ()))
  else
   if ((bitsAnd .u8 a0.tag 31) == 31) = true then
    (Fc69 123).bind fun (e2, _) =>
     some (.inr (e2, ()))
   else
    (Fc99 a0.tag).bind fun y3 =>
     if y3 = true then
      if (decide ((a0.body.length : Int) > 0)) = false then
       (Fc99 a0.tag).bind fun y4 =>
        if (!y4) = true then
         if (decide ((a0.kids.length : Int) > 0)) = true then
          (Fc69 127).bind fun (e5, _) =>
           some (.inr (e5, ()))
         else
          (loopO (stepc81_0 G) ((a0.tag, (a0.body, a0.kids)), a1, (a0.kids.length : Int), 0)).bind fun
           | (.inl (e7, _)) =>
            some (.inr (e7, ()))
           | (.inr _) =>
            some (.inl ())
        else
         (loopO (stepc81_0 G) ((a0.tag, (a0.body, a0.kids)), a1, (a0.kids.length : Int), 0)).bind fun
          | (.inl (e8, _)) =>
           some (.inr (e8, ()))
          | (.inr _) =>
           some (.inl ())
      else
       (Fc69 127).bind fun (e9, _) =>
        some (.inr (e9, ()))
     else
      (Fc99 a0.tag).bind fun y10 =>
       if (!y10) = true then
        if (decide ((a0.kids.length : Int) > 0)) = true then
         (Fc69 127).bind fun (e11, _) =>
          some (.inr (e11, ()))
        else
         (loopO (stepc81_0 G) ((a0.tag, (a0.body, a0.kids)), a1, (a0.kids.length : Int), 0)).bind fun
          | (.inl (e12, _)) =>
           some (.inr (e12, ()))
          | (.inr _) =>
           some (.inl ())
       else
        (loopO (stepc81_0 G) ((a0.tag, (a0.body, a0.kids)), a1, (a0.kids.length : Int), 0)).bind fun
         | (.inl (e13, _)) =>
          some (.inr (e13, ()))
         | (.inr _) =>
          some (.inl ())

noncomputable def annc81 (G : Tree × Int → Option ((Unit) ⊕ (Int × (Unit)))) : Ann := (.seq .none (.seq .none (.seq (.cut (cutEnt lc81_0 oc81_0 (loopO (stepc81_0 G)))) .none)))
theorem eqc81_0 (G : Sc81.inT → Option Sc81.outT) (hG : CallsL Try.prog 81 Sc81 G) : ∀ s : lc81_0.T, exec ctab (ofL ((81, funEntL Sc81 true G) :: Ec99)) 66 (Code.at' [1, 1, 0, 0] bodyc81) (annc81_0 G) (fun e st => loopEnd (l := lc81_0) (outs := oc81_0) e st) (lc81_0.enc s) = stepc81_0 G s := by
  rintro ⟨t0, t1, t52, t53⟩
  kernel_rfl
theorem okc81_0 (G : Sc81.inT → Option Sc81.outT) (hG : CallsL Try.prog 81 Sc81 G) : LOk Try.prog 66 (cutEnt lc81_0 oc81_0 (loopO (stepc81_0 G))) (Code.at' [1, 1, 0] bodyc81) := by
  have e : Code.at' [1, 1, 0] bodyc81 = .loop (Code.at' [1, 1, 0, 0] bodyc81) := by kernel_rfl
  rw [e]
  refine loop_ok (cc81 G hG) 66 rfl rfl (annOk_of_cuts ?_) (eqc81_0 G hG)
  intro x hx
  exact absurd hx (by show x ∉ ([] : List (List Nat × LEnt)); simp)

theorem eqc81 (G : Sc81.inT → Option Sc81.outT) (hG : CallsL Try.prog 81 Sc81 G) : ∀ x : Sc81.inT, exec ctab (ofL ((81, funEntL Sc81 true G) :: Ec99)) 66 bodyc81 (annc81 G) (finL ctab Sc81) (Sc81.inp.enc x) = Bc81 G x := by
  rintro ⟨a0, a1⟩
  kernel_rfl
theorem bcallsc81 (G : Sc81.inT → Option Sc81.outT) (hG : CallsL Try.prog 81 Sc81 G) : CallsL Try.prog 81 Sc81 (Bc81 G) := by
  refine fun_callsL (fn := Try.f81) (c := bodyc81) (ann := (annc81 G)) (cc81 G hG) (by kernel_rfl) (by kernel_rfl) (by kernel_rfl) (by kernel_rfl) (by kernel_rfl) (annOk_of_cuts ?_) (eqc81 G hG)
  have hc : Ann.cuts (annc81 G) = [([1, 1, 0], (cutEnt lc81_0 oc81_0 (loopO (stepc81_0 G))))] := by kernel_rfl
  rw [hc]
  intro x hx
  simp only [List.mem_cons, List.not_mem_nil, or_false] at hx
  rcases hx with rfl
  · have e : Code.at' [1, 1, 0] bodyc81 = Code.at' [1, 1, 0] bodyc81 := by kernel_rfl
    rw [e]; exact okc81_0 G hG

noncomputable def FRc81 : Nat → Tree × Int → Option ((Unit) ⊕ (Int × (Unit)))
  | 0 => fun _ => none
  | k + 1 => Bc81 (FRc81 k)
theorem rcallsc81 : ∀ k, CallsL Try.prog 81 Sc81 (FRc81 k)
  | 0 => fun _ _ _ _ _ _ _ _ h => by cases h
  | k + 1 => bcallsc81 (FRc81 k) (rcallsc81 k)
noncomputable def Fc81 (x : Tree × Int) : Option ((Unit) ⊕ (Int × (Unit))) := FRc81 (20) x
theorem callsc81 : CallsL Try.prog 81 Sc81 Fc81 := fun us x y w fp β h1 h2 h3 h4 => rcallsc81 _ us x y w fp β h1 h2 h3 h4
theorem entc81 : EntOk Try.prog 81 (funEntL Sc81 true Fc81) := fun_okL (fn := Try.f81) (c := bodyc81) (by kernel_rfl) (by kernel_rfl) (by kernel_rfl) (by kernel_rfl) callsc81
noncomputable def Ec81 : List (Nat × Ent) := (81, (funEntL Sc81 true Fc81)) :: Ec99
theorem Ec81_ok : EntsOk Try.prog (ofL Ec81) := .cons entc81 Ec99_ok

/-! ### barbican/der.size -/
noncomputable def bodyc106 : Code := (Try.f106.body).getD .skip
abbrev Sc106 : FL := ⟨⟨[], [.env 0 (.c (.int .i64))], []⟩, 1, [(.ret, ⟨[(0, .full 1)], [.reg 1 (.row 5 .u8)], [(1, .env 0 0)]⟩)], [.tmp 2], false⟩
noncomputable def cc106 : Ctx Try.prog := ⟨ctab, ofL Ec81, ctabOk, Ec81_ok, cdep, cord⟩
noncomputable def Fc106 : Int → Option ((List Int))
  | a0 =>
  if (decide (a0 < 128)) = true then
   some ((List.replicate 1 (0 : Int)).set 0 (IntKind.u8.wrap a0))
  else
   if (decide (a0 < 256)) = true then
    let f1 : List Int := (((List.replicate 2 (0 : Int)).set 0 129).set 1 (IntKind.u8.wrap a0))
    some f1
   else
    if (decide (a0 < 65536)) = true then
     let f2 : List Int := ((((List.replicate 3 (0 : Int)).set 0 130).set 1 (IntKind.u8.wrap (shrI .i64 a0 8))).set 2 (IntKind.u8.wrap a0))
     some f2
    else
     let f3 : List Int := (((((List.replicate 4 (0 : Int)).set 0 131).set 1 (IntKind.u8.wrap (shrI .i64 a0 16))).set 2 (IntKind.u8.wrap (shrI .i64 a0 8))).set 3 (IntKind.u8.wrap a0))
     some f3

noncomputable def annc106 : Ann := .none
theorem eqc106 : ∀ x : Sc106.inT, exec ctab (ofL Ec81) 33 bodyc106 annc106 (finL ctab Sc106) (Sc106.inp.enc x) = Fc106 x := by
  intro x
  kernel_rfl
theorem callsc106 : CallsL Try.prog 106 Sc106 Fc106 := by
  refine fun_callsL (fn := Try.f106) (c := bodyc106) (ann := annc106) cc106 (by kernel_rfl) (by kernel_rfl) (by kernel_rfl) (by kernel_rfl) (by kernel_rfl) (annOk_of_cuts ?_) eqc106
  intro x hx
  exact absurd hx (by show x ∉ ([] : List (List Nat × LEnt)); simp)

theorem entc106 : EntOk Try.prog 106 (funEntL Sc106 true Fc106) := fun_okL (fn := Try.f106) (c := bodyc106) (by kernel_rfl) (by kernel_rfl) (by kernel_rfl) (by kernel_rfl) callsc106
noncomputable def Ec106 : List (Nat × Ent) := (106, (funEntL Sc106 true Fc106)) :: Ec81
theorem Ec106_ok : EntsOk Try.prog (ofL Ec106) := .cons entc106 Ec81_ok

/-! ### barbican/der.write -/
noncomputable def bodyc82 : Code := (Try.f82.body).getD .skip
abbrev Sc82 : FL := ⟨⟨[(0, .full 1000000)], [.reg 1000000 (.row 5 .u8), .env 1 (.c (.fzp .item))], [(1000000, .env 0 0)]⟩, 2, [(.ret, ⟨[(0, .full 1)], [.reg 1 (.row 5 .u8)], [(1, .env 0 0)]⟩), (.panic 125 0, ⟨[], [], []⟩)], [.tmp 4], false⟩
noncomputable def cc82 (G : Sc82.inT → Option Sc82.outT) (hG : CallsL Try.prog 82 Sc82 G) : Ctx Try.prog := ⟨ctab, ofL ((82, funEntL Sc82 true G) :: Ec106), ctabOk, .cons (fun_okL (fn := Try.f82) (c := bodyc82) (by kernel_rfl) (by kernel_rfl) (by kernel_rfl) (by kernel_rfl) hG) Ec106_ok, cdep, cord⟩
abbrev lc82_0 : Lay := ⟨[(0, .full 1000000), (5, .full 5)], [.env 1 (.c (.fzp (.pair (.int .u8) (.pair (.sl (.int .u8)) (.sl .item))))), .env 20 (.c (.int .i64)), .env 21 (.c (.int .i64)), .reg 1000000 (.row 5 .u8), .reg 5 (.row 5 .u8)], [(5, .env 5 0)]⟩
abbrev oc82_0 : List (AExit × Lay) := [(.panic 125 0, ⟨[], [], []⟩), (.exit 0, ⟨[(0, .full 1000000), (5, .full 5)], [.env 1 (.c (.fzp (.pair (.int .u8) (.pair (.sl (.int .u8)) (.sl .item))))), .reg 1000000 (.row 5 .u8), .reg 5 (.row 5 .u8)], [(5, .env 5 0)]⟩)]
noncomputable def stepc82_0 (G : List Int × Tree → Option ((List Int) ⊕ (Int × (Unit)))) : (Int × ((List Int) × (List Tree))) × Int × Int × List Int × List Int → Option (((Int × ((List Int) × (List Tree))) × Int × Int × List Int × List Int) ⊕ ((Int × (Unit)) ⊕ ((Int × ((List Int) × (List Tree))) × List Int × List Int)))
  | (t1, t20, t21, r1000000, r5) =>
  if (decide (t21 < t20)) = true then
   if (0 : Int) ≤ t21 ∧ t21 < (t1.2.2.length : Int) then
    (G (r5, (Tree.node (t1.2.2.getD t21.toNat (DT.dflt .item)).tag (t1.2.2.getD t21.toNat (DT.dflt .item)).body (t1.2.2.getD t21.toNat (DT.dflt .item)).kids))).bind fun
     | (.inl y2) =>
      some (.inl ((t1.1, (t1.2.1, t1.2.2)), t20, (IntKind.i64.wrap (t21 + 1)), r1000000, y2))
     | (.inr (e3, _)) =>
      some (.inr (.inl (e3, ())))
   else none
  else
   some (.inr (.inr ((t1.1, (t1.2.1, t1.2.2)), r1000000, r5)))

noncomputable def annc82_0 (G : List Int × Tree → Option ((List Int) ⊕ (Int × (Unit)))) : Ann := .none
noncomputable def Bc82 (G : List Int × Tree → Option ((List Int) ⊕ (Int × (Unit)))) : List Int × Tree → Option ((List Int) ⊕ (Int × (Unit)))
  | (a0, a1) =>
  (Fc99 a1.tag).bind fun y1 =>
   if y1 = true then
    (loopO (stepc82_0 G) ((a1.tag, (a1.body, a1.kids)), (a1.kids.length : Int), 0, a0, ([] : List Int))).bind fun
     | (.inl (e4, _)) =>
      some (.inr (e4, ()))
     | (.inr (z5, z6, z7)) =>
      if (decide ((z7.length : Int) > 65536)) = true then
       (Fc69 121).bind fun (e8, _) =>
        some (.inr (e8, ()))
      else
       if okBytes (z6.length + ((List.replicate 1 (0 : Int)).set 0 z5.1).length) 1 then
        (Fc106 (z7.length : Int)).bind fun y9 =>
         if okBytes ((z6 ++ ((List.replicate 1 (0 : Int)).set 0 z5.1)).length + y9.length) 1 then
          if okBytes (((z6 ++ ((List.replicate 1 (0 : Int)).set 0 z5.1)) ++ y9).length + z7.length) 1 then
           let f10 : List Int := (((z6 ++ ((List.replicate 1 (0 : Int)).set 0 z5.1)) ++ y9) ++ z7)
           if (decide ((f10.length : Int) > 65536)) = true then
            (Fc69 121).bind fun (e11, _) =>
             some (.inr (e11, ()))
           else
            some (.inl f10)
          else none
         else none
       else none
   else
    if (decide ((a1.body.length : Int) > 65536)) = true then
     (Fc69 121).bind fun (e12, _) =>
      some (.inr (e12, ()))
    else
     if okBytes (a0.length + ((List.replicate 1 (0 : Int)).set 0 a1.tag).length) 1 then
      (Fc106 (a1.body.length : Int)).bind fun y13 =>
       if okBytes ((a0 ++ ((List.replicate 1 (0 : Int)).set 0 a1.tag)).length + y13.length) 1 then
        if okBytes (((a0 ++ ((List.replicate 1 (0 : Int)).set 0 a1.tag)) ++ y13).length + a1.body.length) 1 then
         let f14 : List Int := (((a0 ++ ((List.replicate 1 (0 : Int)).set 0 a1.tag)) ++ y13) ++ a1.body)
         if (decide ((f14.length : Int) > 65536)) = true then
          (Fc69 121).bind fun (e15, _) =>
           some (.inr (e15, ()))
         else
          some (.inl f14)
        else none
       else none
     else none

noncomputable def annc82 (G : List Int × Tree → Option ((List Int) ⊕ (Int × (Unit)))) : Ann := (.seq .none (.seq .none (.seq (.seq .none (.seq (.seq .none (.seq .none (.seq (.cut (cutEnt lc82_0 oc82_0 (loopO (stepc82_0 G)))) .none))) .none)) .none)))
theorem eqc82_0 (G : Sc82.inT → Option Sc82.outT) (hG : CallsL Try.prog 82 Sc82 G) : ∀ s : lc82_0.T, exec ctab (ofL ((82, funEntL Sc82 true G) :: Ec106)) 56 (Code.at' [1, 1, 0, 1, 0, 1, 1, 0, 0] bodyc82) (annc82_0 G) (fun e st => loopEnd (l := lc82_0) (outs := oc82_0) e st) (lc82_0.enc s) = stepc82_0 G s := by
  rintro ⟨t1, t20, t21, r1000000, r5⟩
  kernel_rfl
theorem okc82_0 (G : Sc82.inT → Option Sc82.outT) (hG : CallsL Try.prog 82 Sc82 G) : LOk Try.prog 56 (cutEnt lc82_0 oc82_0 (loopO (stepc82_0 G))) (Code.at' [1, 1, 0, 1, 0, 1, 1, 0] bodyc82) := by
  have e : Code.at' [1, 1, 0, 1, 0, 1, 1, 0] bodyc82 = .loop (Code.at' [1, 1, 0, 1, 0, 1, 1, 0, 0] bodyc82) := by kernel_rfl
  rw [e]
  refine loop_ok (cc82 G hG) 56 rfl rfl (annOk_of_cuts ?_) (eqc82_0 G hG)
  intro x hx
  exact absurd hx (by show x ∉ ([] : List (List Nat × LEnt)); simp)

theorem eqc82 (G : Sc82.inT → Option Sc82.outT) (hG : CallsL Try.prog 82 Sc82 G) : ∀ x : Sc82.inT, exec ctab (ofL ((82, funEntL Sc82 true G) :: Ec106)) 56 bodyc82 (annc82 G) (finL ctab Sc82) (Sc82.inp.enc x) = Bc82 G x := by
  rintro ⟨a0, a1⟩
  kernel_rfl
theorem bcallsc82 (G : Sc82.inT → Option Sc82.outT) (hG : CallsL Try.prog 82 Sc82 G) : CallsL Try.prog 82 Sc82 (Bc82 G) := by
  refine fun_callsL (fn := Try.f82) (c := bodyc82) (ann := (annc82 G)) (cc82 G hG) (by kernel_rfl) (by kernel_rfl) (by kernel_rfl) (by kernel_rfl) (by kernel_rfl) (annOk_of_cuts ?_) (eqc82 G hG)
  have hc : Ann.cuts (annc82 G) = [([1, 1, 0, 1, 0, 1, 1, 0], (cutEnt lc82_0 oc82_0 (loopO (stepc82_0 G))))] := by kernel_rfl
  rw [hc]
  intro x hx
  simp only [List.mem_cons, List.not_mem_nil, or_false] at hx
  rcases hx with rfl
  · have e : Code.at' [1, 1, 0, 1, 0, 1, 1, 0] bodyc82 = Code.at' [1, 1, 0, 1, 0, 1, 1, 0] bodyc82 := by kernel_rfl
    rw [e]; exact okc82_0 G hG

noncomputable def FRc82 : Nat → List Int × Tree → Option ((List Int) ⊕ (Int × (Unit)))
  | 0 => fun _ => none
  | k + 1 => Bc82 (FRc82 k)
theorem rcallsc82 : ∀ k, CallsL Try.prog 82 Sc82 (FRc82 k)
  | 0 => fun _ _ _ _ _ _ _ _ h => by cases h
  | k + 1 => bcallsc82 (FRc82 k) (rcallsc82 k)
noncomputable def Fc82 (x : List Int × Tree) : Option ((List Int) ⊕ (Int × (Unit))) := FRc82 (Tree.rank x.2 + 1) x
theorem callsc82 : CallsL Try.prog 82 Sc82 Fc82 := fun us x y w fp β h1 h2 h3 h4 => rcallsc82 _ us x y w fp β h1 h2 h3 h4
theorem entc82 : EntOk Try.prog 82 (funEntL Sc82 true Fc82) := fun_okL (fn := Try.f82) (c := bodyc82) (by kernel_rfl) (by kernel_rfl) (by kernel_rfl) (by kernel_rfl) callsc82
noncomputable def Ec82 : List (Nat × Ent) := (82, (funEntL Sc82 true Fc82)) :: Ec106
theorem Ec82_ok : EntsOk Try.prog (ofL Ec82) := .cons entc82 Ec106_ok

/-! ### barbican/der.Encode -/
/-! ### der.caught, by hand -/
noncomputable def bodyc67 : Code := (Try.f67.body).getD .skip
noncomputable def oac67 : Array Oper := opsOf (Code.at' [0, 0] bodyc67)
noncomputable def obc67 : Array Oper := opsOf (Code.at' [1, 0] bodyc67)
theorem atc67 : bodyc67 = .seq (.seq (.region 0 oac67 false) (.cond (.tmp 7) .ret .skip)) (.seq (.region 1 obc67 false) (Code.at' [1, 1] bodyc67)) := by kernel_rfl
abbrev Sc67 : FL := ⟨⟨[(1, .ptr 1000000 0 1)], [.reg 1000000 (.cells [.int .i64])], [(1000000, .env 1 0)]⟩, 2, [(.ret, ⟨[], [.reg 1000000 (.cells [.int .i64])], []⟩)], [], false⟩
noncomputable def cc67 : Ctx Try.prog := ⟨ctab, ofL cE0, ctabOk, cE0_ok, cdep, cord⟩
noncomputable def stc67 (n : Int) (x : Sc67.inT) : St := { env := upd (upd (Sc67.inp.enc x).env 11 (some (.agg [.int .i64 n]))) 12 (some (.c (.bool true))), heap := (Sc67.inp.enc x).heap }
noncomputable def Fc67 (n : Int) (x : Sc67.inT) : Option Sc67.outT := some n
theorem exc67 (n : Int) : ∀ x, execOps ctab (ofL cE0) 20 obc67 ((List.range' 5 3).map (opAt obc67)) (stc67 n x) [] (fun st' _ => exec ctab (ofL cE0) 20 (Code.at' [1, 1] bodyc67) .none (finL ctab Sc67) st') (fun _ _ _ _ _ => none) = Fc67 n x := by
  intro x
  kernel_rfl
theorem nilc67 (v : Value) (w : World) : Calls Try.prog 67 #[.nilIface, v] w fun e w' => e = .returned (.tuple #[]) ∧ w' = w := by
  refine calls_of_wp (fn := Try.f67) (c := bodyc67) (by kernel_rfl) (by kernel_rfl) ?_
  have n20 : Try.f67.ntmps = 20 := by kernel_rfl
  have d0 : (opAt oac67 0).dst = some 6 := by kernel_rfl
  have d1 : (opAt oac67 1).dst = some 7 := by kernel_rfl
  rw [atc67, n20]
  refine wp_seq (wp_seq (wp_region ?_))
  have r0 : List.range oac67.size = [0, 1] := by kernel_rfl
  rw [r0]
  refine wpOps_val (o := opAt oac67 0) (v := .nilIface) (w' := w) (by kernel_rfl) (by kernel_rfl) (by kernel_rfl) ?_
  refine wpOps_val (o := opAt oac67 1) (v := .bool true) (w' := w) (by kernel_rfl) (by kernel_rfl) (by kernel_rfl) ?_
  rw [d0, d1]
  refine wp_cond_true (by kernel_rfl) (wp_ret ?_)
  exact ⟨rfl, .tuple #[], by kernel_rfl, rfl, rfl⟩
theorem numc67 (n : Int) (pv : Value) (x : Sc67.inT) (y : Sc67.outT) (w : World) (fp : FP) (β : Nat → Value) (hF : Fc67 n x = some y) (hdfs : fp.dfs = []) (R : Rel Try.prog w fp 2 β (Sc67.inp.enc x) { tmps := #[.iface 125 (.agg #[.int .i64 n]), pv], defers := [] } w) :
    Calls Try.prog 67 #[.iface 125 (.agg #[.int .i64 n]), pv] w (EndL Try.prog Sc67 fp w y) := by
  refine calls_of_wp (fn := Try.f67) (c := bodyc67) (by kernel_rfl) (by kernel_rfl) ?_
  have n20 : Try.f67.ntmps = 20 := by kernel_rfl
  obtain ⟨anc, hb, dfs⟩ := fp
  have hdfs : dfs = [] := hdfs
  subst hdfs
  have d0 : (opAt oac67 0).dst = some 6 := by kernel_rfl
  have d1 : (opAt oac67 1).dst = some 7 := by kernel_rfl
  have e0 : (opAt obc67 0).dst = some 9 := by kernel_rfl
  have e1 : (opAt obc67 1).dst = some 10 := by kernel_rfl
  have e2 : (opAt obc67 2).dst = some 8 := by kernel_rfl
  have e3 : (opAt obc67 3).dst = some 11 := by kernel_rfl
  have e4 : (opAt obc67 4).dst = some 12 := by kernel_rfl
  rw [atc67, n20]
  refine wp_seq (wp_seq (wp_region ?_))
  have r0 : List.range oac67.size = [0, 1] := by kernel_rfl
  rw [r0]
  refine wpOps_val (o := opAt oac67 0) (v := .iface 125 (.agg #[.int .i64 n])) (w' := w) (by kernel_rfl) (by kernel_rfl) (by kernel_rfl) ?_
  refine wpOps_val (o := opAt oac67 1) (v := .bool false) (w' := w) (by kernel_rfl) (by kernel_rfl) (by kernel_rfl) ?_
  rw [d0, d1]
  refine wp_cond_false (by kernel_rfl) (wp_skip ?_)
  refine wp_seq (wp_region ?_)
  have r1 : List.range obc67.size = 0 :: 1 :: 2 :: 3 :: 4 :: (List.range' 5 3 ++ []) := by kernel_rfl
  rw [r1]
  refine wpOps_val (o := opAt obc67 0) (v := .iface 125 (.agg #[.int .i64 n])) (w' := w) (by kernel_rfl) (by kernel_rfl) (by kernel_rfl) ?_
  refine wpOps_val (o := opAt obc67 1) (v := .tuple #[.agg #[.int .i64 n], .bool true]) (w' := w) (by kernel_rfl) (by kernel_rfl) (by kernel_rfl) ?_
  refine wpOps_val (o := opAt obc67 2) (v := .tuple #[.agg #[.int .i64 n], .bool true]) (w' := w) (by kernel_rfl) (by kernel_rfl) (by kernel_rfl) ?_
  refine wpOps_val (o := opAt obc67 3) (v := .agg #[.int .i64 n]) (w' := w) (by kernel_rfl) (by kernel_rfl) (by kernel_rfl) ?_
  refine wpOps_val (o := opAt obc67 4) (v := .bool true) (w' := w) (by kernel_rfl) (by kernel_rfl) (by kernel_rfl) ?_
  rw [e0, e1, e2, e3, e4]
  have e := exc67 n x
  rw [hF] at e
  have hall := opAt_all (ops := obc67) (i := 5) (k := 3) (by kernel_rfl)
  refine ops_sound cc67 (i := 5) (ops := (List.range' 5 3).map (opAt obc67)) (w0 := w) (fp := ⟨anc, hb, []⟩) e hall ⟨β, ?_⟩ ?_ ?_
  · refine R.act rfl (by simp [Act.put]) (by decide) (fun t av ht => ?_)
    by_cases h12 : t = 12
    · subst h12
      have ht : some (AV.c (.bool true)) = some av := ht
      cases ht
      exact avBool (by kernel_rfl)
    · by_cases h11 : t = 11
      · subst h11
        have ht : some (AV.agg [.int .i64 n]) = some av := ht
        cases ht
        exact avNum (by kernel_rfl)
      · have ht : upd (upd (Sc67.inp.enc x).env 11 (some (.agg [.int .i64 n]))) 12 (some (.c (.bool true))) t = some av := ht
        rw [upd_ne _ _ h12, upd_ne _ _ h11] at ht
        have h1 := R.env t av ht
        match t with
        | 0 => cases ht
        | 1 => exact avEq h1 (by kernel_rfl)
        | t + 2 => cases ht
  · rintro st' _ a w' h1 ⟨β', R'⟩
    exact wpOps_end (rest_callsL cc67 (fn := Try.f67) (S := Sc67) (c := Code.at' [1, 1] bodyc67) (ann := .none) (y := y) (w := w) (w1 := w') (st := st') (a := a) (β := β') (fp := ⟨anc, hb, []⟩) (by kernel_rfl) (by kernel_rfl) (by kernel_rfl) noCuts rfl h1 R')
  · intro t m st' rest _ a w' h1
    cases h1
noncomputable def entc67 : Ent := caughtEnt 125 Sc67 Fc67
theorem entc67_ok : EntOk Try.prog 67 entc67 := caught_ok (fn := Try.f67) (c := bodyc67) (by kernel_rfl) (by kernel_rfl) (by kernel_rfl) (by kernel_rfl) numc67 nilc67
noncomputable def Ec67 : List (Nat × Ent) := [(67, entc67)]
theorem Ec67_ok : EntsOk Try.prog (ofL Ec67) := .cons entc67_ok (.nil _)

/-! ### the closure 66, by hand -/
noncomputable def bodyc66 : Code := (Try.f66.body).getD .skip
noncomputable def oac66 : Array Oper := opsOf (Code.at' [0] bodyc66)
theorem atc66 : bodyc66 = .seq (.region 0 oac66 false) (Code.at' [1] bodyc66) := by kernel_rfl
abbrev Sc66 : FL := ⟨⟨[(0, .ptr 1000000 0 1), (1, .ptr 1000001 0 3)], [.reg 1000000 (.cells [.int .i64]), .reg 1000001 (.cells [.int .u8, .fz (.int .u8), .fz .item])], [(1000000, .env 0 0), (1000001, .env 1 0)]⟩, 2, [(.ret, ⟨[], [.reg 1000000 (.cells [.int .i64]), .reg 1000001 (.cells [.int .u8, .fz (.int .u8), .fz .item])], []⟩)], [], true⟩
noncomputable def cc66 : Ctx Try.prog := ⟨ctab, ofL Ec67, ctabOk, Ec67_ok, cdep, cord⟩
noncomputable def FRc66 : Int × Int × List Int × List Tree → Option (Int × Int × List Int × List Tree) := fun (e, t, b, k) => if (e != 0) = true then some (e, 0, [], []) else some (e, t, b, k)
noncomputable def FPc66 (n : Int) : Int × Int × List Int × List Tree → Option (Int × Int × List Int × List Tree) := fun (e, t, b, k) => if (n != 0) = true then some (n, 0, [], []) else some (n, t, b, k)
theorem eqRc66 : ∀ x, cloF ctab (ofL Ec67) 7 Sc66 oac66 2 (opAt oac66 1) (Code.at' [1] bodyc66) .none .nilIface x = FRc66 x := by
  rintro ⟨e, i⟩
  kernel_rfl
theorem eqPc66 (n : Int) : ∀ x, cloF ctab (ofL Ec67) 7 Sc66 oac66 2 (opAt oac66 1) (Code.at' [1] bodyc66) .none (.iface 125 (.agg #[.int .i64 n])) x = FPc66 n x := by
  rintro ⟨e, i⟩
  kernel_rfl
theorem cloc66 {u u' : FrameMode} {v : Value} (hu : Recovers u u' v) {F : Sc66.inT → Option Sc66.outT} (h : ∀ x, cloF ctab (ofL Ec67) 7 Sc66 oac66 2 (opAt oac66 1) (Code.at' [1] bodyc66) .none v x = F x) : CallsDL Try.prog 66 Sc66 u u' F :=
  clo_callsDL cc66 (fn := Try.f66) (id := 0) (ops := oac66) (rest := Code.at' [1] bodyc66) (ann := .none) (t0 := 2) (v := v) (o0 := opAt oac66 0) (o1 := opAt oac66 1) (by kernel_rfl) (by kernel_rfl) (by kernel_rfl) (by kernel_rfl) (by kernel_rfl) (by kernel_rfl) (by kernel_rfl) (by kernel_rfl) (by kernel_rfl) (fun a w => by kernel_rfl) (by kernel_rfl) (by kernel_rfl) (by kernel_rfl)
    noCuts hu h
theorem okc66 : CloOk Try.prog 66 Sc66 125 FRc66 FPc66 := ⟨cloc66 (.inl ⟨rfl, rfl, rfl⟩) eqRc66, fun n => cloc66 (.inr ⟨rfl, rfl⟩) (eqPc66 n)⟩

/-! ### the closure 80, by hand -/
noncomputable def bodyc80 : Code := (Try.f80.body).getD .skip
noncomputable def oac80 : Array Oper := opsOf (Code.at' [0] bodyc80)
theorem atc80 : bodyc80 = .seq (.region 0 oac80 false) (Code.at' [1] bodyc80) := by kernel_rfl
abbrev Sc80 : FL := ⟨⟨[(0, .ptr 1000000 0 1), (1, .ptr 1000001 0 1)], [.reg 1000000 (.cells [.int .i64]), .reg 1000001 (.cells [.fz (.int .u8)])], [(1000000, .env 0 0), (1000001, .env 1 0)]⟩, 2, [(.ret, ⟨[], [.reg 1000000 (.cells [.int .i64]), .reg 1000001 (.cells [.fz (.int .u8)])], []⟩)], [], true⟩
noncomputable def cc80 : Ctx Try.prog := ⟨ctab, ofL Ec67, ctabOk, Ec67_ok, cdep, cord⟩
noncomputable def FRc80 : Int × List Int → Option (Int × List Int) := fun (e, b) => if (e != 0) = true then some (e, []) else some (e, b)
noncomputable def FPc80 (n : Int) : Int × List Int → Option (Int × List Int) := fun (e, b) => if (n != 0) = true then some (n, []) else some (n, b)
theorem eqRc80 : ∀ x, cloF ctab (ofL Ec67) 6 Sc80 oac80 2 (opAt oac80 1) (Code.at' [1] bodyc80) .none .nilIface x = FRc80 x := by
  rintro ⟨e, i⟩
  kernel_rfl
theorem eqPc80 (n : Int) : ∀ x, cloF ctab (ofL Ec67) 6 Sc80 oac80 2 (opAt oac80 1) (Code.at' [1] bodyc80) .none (.iface 125 (.agg #[.int .i64 n])) x = FPc80 n x := by
  rintro ⟨e, i⟩
  kernel_rfl
theorem cloc80 {u u' : FrameMode} {v : Value} (hu : Recovers u u' v) {F : Sc80.inT → Option Sc80.outT} (h : ∀ x, cloF ctab (ofL Ec67) 6 Sc80 oac80 2 (opAt oac80 1) (Code.at' [1] bodyc80) .none v x = F x) : CallsDL Try.prog 80 Sc80 u u' F :=
  clo_callsDL cc80 (fn := Try.f80) (id := 0) (ops := oac80) (rest := Code.at' [1] bodyc80) (ann := .none) (t0 := 2) (v := v) (o0 := opAt oac80 0) (o1 := opAt oac80 1) (by kernel_rfl) (by kernel_rfl) (by kernel_rfl) (by kernel_rfl) (by kernel_rfl) (by kernel_rfl) (by kernel_rfl) (by kernel_rfl) (by kernel_rfl) (fun a w => by kernel_rfl) (by kernel_rfl) (by kernel_rfl) (by kernel_rfl)
    noCuts hu h
theorem okc80 : CloOk Try.prog 80 Sc80 125 FRc80 FPc80 := ⟨cloc80 (.inl ⟨rfl, rfl, rfl⟩) eqRc80, fun n => cloc80 (.inr ⟨rfl, rfl⟩) (eqPc80 n)⟩

abbrev Sc45 : FL := ⟨⟨[], [.env 0 (.dat .item)], []⟩, 1, [(.ret, ⟨[], [.env 0 (.c (.fz (.int .u8))), .env 1 (.c (.int .i64))], []⟩)], [.cell 2 22, .cell 3 27], true⟩
noncomputable def bodyc45 : Code := (Try.f45.body).getD .skip
noncomputable def oac45 : Array Oper := opsOf (Code.at' [1, 0] bodyc45)
theorem atc45 : bodyc45 = .seq (Code.at' [0] bodyc45) (.seq (.region 1 oac45 false) (Code.at' [1, 1] bodyc45)) := by kernel_rfl
abbrev SMc45 : FL := ⟨⟨[(2, .ptr 1000001 0 1), (3, .ptr 1000000 0 1)], [.env 1 (.c (.fzp .item)), .reg 1000000 (.cells [.int .i64]), .reg 1000001 (.cells [.fz (.int .u8)])], [(1000000, .env 3 0), (1000001, .env 2 0)]⟩, 4, [(.ret, ⟨[], [.env 0 (.c (.fz (.int .u8))), .env 1 (.c (.int .i64))], []⟩)], [.cell 2 22, .cell 3 27], true⟩
noncomputable def cc45 : Ctx Try.prog := ⟨ctab, ofL Ec82, ctabOk, Ec82_ok, cdep, cord⟩
noncomputable def FMc45 : Tree × Int × List Int → Option (List Int × Int) := fun (i, e, b) =>
    (Fc81 (Tree.node i.tag i.body i.kids, 1)).bind fun
      | .inr (n, _) => (FPc80 n (e, b)).bind fun (e', b') => some (b', e')
      | .inl _ => (Fc82 ([], Tree.node i.tag i.body i.kids)).bind fun
        | .inr (n, _) => (FPc80 n (e, b)).bind fun (e', b') => some (b', e')
        | .inl out => some (out, 0)
noncomputable def Fc45 : Tree → Option (List Int × Int) := fun (i : Tree) => (FMc45 (Tree.node i.tag i.body i.kids, 0, [])).bind fun (b, e) => some (b, e)
theorem eqMc45 : ∀ x, exec ctab (ofL Ec82) 7 (Code.at' [1, 1] bodyc45) .none (finD ctab SMc45 [3, 2] (SMc45.inp.enc x) (funEntL Sc80 false FRc80) 125 (fun n => funEntL Sc80 false (FPc80 n))) (SMc45.inp.enc x) = FMc45 x := by
  rintro ⟨i, e, b⟩
  kernel_rfl
theorem eqc45 : ∀ x, deferF ctab (ofL Ec82) 7 (Code.at' [0] bodyc45) .none Sc45 SMc45 [1, 2, 3] 4 FMc45 x = Fc45 x := by
  intro i
  kernel_rfl
theorem callsc45 : CallsL Try.prog 45 Sc45 Fc45 :=
  defer_callsL cc45 (fn := Try.f45) (fnc := Try.f80) (A := Code.at' [0] bodyc45) (rest := Code.at' [1, 1] bodyc45) (id := 1) (ops := oac45) (cc := bodyc80) (o0 := opAt oac45 0) (o1 := opAt oac45 1) (tc := 4) (pt := 125) (cs := [3, 2]) (kn := [1, 2, 3]) (SM := SMc45) (SC := Sc80) (annA := .none) (ann := .none) (FR := FRc80) (FPn := FPc80) (FM := FMc45)
    (by kernel_rfl) (by kernel_rfl) (by kernel_rfl) (by kernel_rfl) (by kernel_rfl) (by kernel_rfl) (by kernel_rfl) (by kernel_rfl) (by kernel_rfl) (by kernel_rfl)
    (fun a w => by kernel_rfl) (fun a w vs h => defer_run (o := opAt oac45 1) (ats := #[]) (by kernel_rfl) h)
    (by kernel_rfl) (by kernel_rfl) (by kernel_rfl) (by kernel_rfl) okc80 (by kernel_rfl) (by kernel_rfl) (by kernel_rfl) (by kernel_rfl) (by kernel_rfl) (by kernel_rfl) (by kernel_rfl)
    noCuts noCuts eqMc45 eqc45
theorem entc45 : EntOk Try.prog 45 (funEntL Sc45 true Fc45) := fun_okL (fn := Try.f45) (c := bodyc45) (by kernel_rfl) (by kernel_rfl) (by kernel_rfl) (by kernel_rfl) callsc45

noncomputable def Ec45 : List (Nat × Ent) := (45, funEntL Sc45 true Fc45) :: Ec82
theorem Ec45_ok : EntsOk Try.prog (ofL Ec45) := .cons entc45 Ec82_ok

/-! ### barbican/cert.Bytes -/
noncomputable def bodyc16 : Code := (Try.f16.body).getD .skip
abbrev Sc16 : FL := ⟨⟨[], [.env 0 (.agg [.int .u64, .str, .str, .fz (.int .u8), .fz (.pair (.int .i64) (.pair .bool (.sl (.int .u8)))), .fz (.int .u8)])], []⟩, 1, [(.ret, ⟨[], [.env 0 (.c (.fz (.int .u8))), .env 1 (.c (.int .i64))], []⟩)], [.tmp 2, .tmp 3], true⟩
noncomputable def cc16 : Ctx Try.prog := ⟨ctab, ofL Ec45, ctabOk, Ec45_ok, cdep, cord⟩
abbrev lc16_0 : Lay := ⟨[], [.env 0 (.agg [.int .u64, .str, .str, .fz (.int .u8), .fz (.pair (.int .i64) (.pair .bool (.sl (.int .u8)))), .fz (.int .u8)])], []⟩
abbrev oc16_0 : List (AExit × Lay) := [(.normal, ⟨[], [.env 1 (.c (.fzp (.pair (.int .u64) (.pair .str (.pair .str (.pair (.sl (.int .u8)) (.pair (.sl (.pair (.int .i64) (.pair .bool (.sl (.int .u8))))) (.sl (.int .u8)))))))))], []⟩)]
noncomputable def stepc16_0 : Int × ByteArray × ByteArray × (List Int) × (List (Int × (Bool × (List Int)))) × (List Int) → Option (((Int × (ByteArray × (ByteArray × ((List Int) × ((List (Int × (Bool × (List Int)))) × (List Int))))))))
  | t0 =>
  some (t0.1, (t0.2.1, (t0.2.2.1, (t0.2.2.2.1, (t0.2.2.2.2.1, t0.2.2.2.2.2)))))

noncomputable def annc16_0 : Ann := .none
noncomputable def Fc16 : Int × ByteArray × ByteArray × (List Int) × (List (Int × (Bool × (List Int)))) × (List Int) → Option (((List Int) × Int))
  | a0 =>
  (stepc16_0 (a0.1, a0.2.1, a0.2.2.1, a0.2.2.2.1, a0.2.2.2.2.1, a0.2.2.2.2.2)).bind fun z1 =>
   (Fc43 (z1.1, (z1.2.1, (z1.2.2.1, (z1.2.2.2.1, (z1.2.2.2.2.1, z1.2.2.2.2.2)))))).bind fun y2 =>
    if (y2 == 134) = false then
     if ((z1.2.2.2.2.2.length : Int) != 3373) = true then
      some (([] : List Int), 134)
     else
      if (y2 != 0) = true then
       some (([] : List Int), y2)
      else
       (Fc46 (z1.1, (z1.2.1, (z1.2.2.1, (z1.2.2.2.1, (z1.2.2.2.2.1, z1.2.2.2.2.2)))))).bind fun y3 =>
        (Fc48 ()).bind fun y4 =>
         (Fc49 z1.2.2.2.2.2).bind fun y5 =>
          let f6 : List Tree := ([(Tree.node y3.tag y3.body y3.kids), (Tree.node y4.tag y4.body y4.kids), (Tree.node y5.tag y5.body y5.kids)] : List Tree)
          (Fc47 (48, f6)).bind fun (y7, y8) =>
           (Fc45 (Tree.node y7.1 ([] : List Int) y8)).bind fun (y9, y10) =>
            some (y9, y10)
    else
     some (([] : List Int), 134)

noncomputable def annc16 : Ann := (.seq (.cut (cutEnt lc16_0 oc16_0 stepc16_0)) .none)
theorem eqc16_0 : ∀ s : lc16_0.T, exec ctab (ofL Ec45) 27 (Code.at' [0] bodyc16) annc16_0 (fun e st => decOut e st oc16_0) (lc16_0.enc s) = stepc16_0 s := by
  intro s
  kernel_rfl
theorem okc16_0 : LOk Try.prog 27 (cutEnt lc16_0 oc16_0 stepc16_0) (Code.at' [0] bodyc16) := by
  refine cut_ok cc16 27 rfl rfl (annOk_of_cuts ?_) eqc16_0
  intro x hx
  exact absurd hx (by show x ∉ ([] : List (List Nat × LEnt)); simp)

theorem eqc16 : ∀ x : Sc16.inT, exec ctab (ofL Ec45) 27 bodyc16 annc16 (finL ctab Sc16) (Sc16.inp.enc x) = Fc16 x := by
  intro x
  kernel_rfl
theorem callsc16 : CallsL Try.prog 16 Sc16 Fc16 := by
  refine fun_callsL (fn := Try.f16) (c := bodyc16) (ann := annc16) cc16 (by kernel_rfl) (by kernel_rfl) (by kernel_rfl) (by kernel_rfl) (by kernel_rfl) (annOk_of_cuts ?_) eqc16
  have hc : Ann.cuts annc16 = [([0], (cutEnt lc16_0 oc16_0 stepc16_0))] := by kernel_rfl
  rw [hc]
  intro x hx
  simp only [List.mem_cons, List.not_mem_nil, or_false] at hx
  rcases hx with rfl
  · have e : Code.at' [0] bodyc16 = Code.at' [0] bodyc16 := by kernel_rfl
    rw [e]; exact okc16_0

theorem entc16 : EntOk Try.prog 16 (funEntL Sc16 true Fc16) := fun_okL (fn := Try.f16) (c := bodyc16) (by kernel_rfl) (by kernel_rfl) (by kernel_rfl) (by kernel_rfl) callsc16
noncomputable def Ec16 : List (Nat × Ent) := (16, (funEntL Sc16 true Fc16)) :: Ec45
theorem Ec16_ok : EntsOk Try.prog (ofL Ec16) := .cons entc16 Ec45_ok

/-! ### (*barbican/der.reader).take -/
noncomputable def bodyc96 : Code := (Try.f96.body).getD .skip
abbrev Sc96 : FL := ⟨⟨[(0, .ptr 1000000 0 1)], [.reg 1000000 (.cells [.fz (.int .u8)])], [(1000000, .env 0 0)]⟩, 1, [(.panic 125 0, ⟨[], [], []⟩), (.ret, ⟨[], [.env 0 (.c (.int .u8)), .reg 1000000 (.cells [.fz (.int .u8)])], []⟩)], [.tmp 2], true⟩
noncomputable def cc96 : Ctx Try.prog := ⟨ctab, ofL Ec16, ctabOk, Ec16_ok, cdep, cord⟩
noncomputable def Fc96 : (List Int) → Option ((Int × (Unit)) ⊕ (Int × (List Int)))
  | io =>
  if ((io.length : Int) == 0) = true then
   (Fc69 122).bind fun (e1, _) =>
    some (.inl (e1, ()))
  else
   if (0 : Int) ≤ (0 : Int) ∧ (0 : Int) < (io.length : Int) then
    if (0 : Int) ≤ (1 : Int) ∧ (1 : Int) ≤ (io.length : Int) then
     some (.inr ((io.getD 0 0), (io.drop 1)))
    else none
   else none

noncomputable def annc96 : Ann := .none
theorem eqc96 : ∀ x : Sc96.inT, exec ctab (ofL Ec16) 26 bodyc96 annc96 (finL ctab Sc96) (Sc96.inp.enc x) = Fc96 x := by
  intro x
  kernel_rfl
theorem callsc96 : CallsL Try.prog 96 Sc96 Fc96 := by
  refine fun_callsL (fn := Try.f96) (c := bodyc96) (ann := annc96) cc96 (by kernel_rfl) (by kernel_rfl) (by kernel_rfl) (by kernel_rfl) (by kernel_rfl) (annOk_of_cuts ?_) eqc96
  intro x hx
  exact absurd hx (by show x ∉ ([] : List (List Nat × LEnt)); simp)

theorem entc96 : EntOk Try.prog 96 (funEntL Sc96 true Fc96) := fun_okL (fn := Try.f96) (c := bodyc96) (by kernel_rfl) (by kernel_rfl) (by kernel_rfl) (by kernel_rfl) callsc96
noncomputable def Ec96 : List (Nat × Ent) := (96, (funEntL Sc96 true Fc96)) :: Ec16
theorem Ec96_ok : EntsOk Try.prog (ofL Ec96) := .cons entc96 Ec16_ok

/-! ### (*barbican/der.reader).cut -/
noncomputable def bodyc97 : Code := (Try.f97.body).getD .skip
abbrev Sc97 : FL := ⟨⟨[(0, .ptr 1000000 0 1)], [.reg 1000000 (.cells [.fz (.int .u8)]), .env 1 (.c (.int .i64))], [(1000000, .env 0 0)]⟩, 2, [(.panic 125 0, ⟨[], [], []⟩), (.ret, ⟨[], [.env 0 (.c (.fz (.int .u8))), .reg 1000000 (.cells [.fz (.int .u8)])], []⟩)], [.tmp 4], true⟩
noncomputable def cc97 : Ctx Try.prog := ⟨ctab, ofL Ec96, ctabOk, Ec96_ok, cdep, cord⟩
noncomputable def Fc97 : (List Int) × Int → Option ((Int × (Unit)) ⊕ ((List Int) × (List Int)))
  | (io, a1) =>
  if (decide (a1 > (io.length : Int))) = true then
   (Fc69 122).bind fun (e1, _) =>
    some (.inl (e1, ()))
  else
   if (0 : Int) ≤ a1 ∧ a1 ≤ (io.length : Int) then
    if (0 : Int) ≤ a1 ∧ a1 ≤ (io.length : Int) then
     some (.inr ((io.take a1.toNat), (io.drop a1.toNat)))
    else none
   else none

noncomputable def annc97 : Ann := .none
theorem eqc97 : ∀ x : Sc97.inT, exec ctab (ofL Ec96) 30 bodyc97 annc97 (finL ctab Sc97) (Sc97.inp.enc x) = Fc97 x := by
  rintro ⟨io, a1⟩
  kernel_rfl
theorem callsc97 : CallsL Try.prog 97 Sc97 Fc97 := by
  refine fun_callsL (fn := Try.f97) (c := bodyc97) (ann := annc97) cc97 (by kernel_rfl) (by kernel_rfl) (by kernel_rfl) (by kernel_rfl) (by kernel_rfl) (annOk_of_cuts ?_) eqc97
  intro x hx
  exact absurd hx (by show x ∉ ([] : List (List Nat × LEnt)); simp)

theorem entc97 : EntOk Try.prog 97 (funEntL Sc97 true Fc97) := fun_okL (fn := Try.f97) (c := bodyc97) (by kernel_rfl) (by kernel_rfl) (by kernel_rfl) (by kernel_rfl) callsc97
noncomputable def Ec97 : List (Nat × Ent) := (97, (funEntL Sc97 true Fc97)) :: Ec96
theorem Ec97_ok : EntsOk Try.prog (ofL Ec97) := .cons entc97 Ec96_ok

/-! ### (*barbican/der.reader).length -/
noncomputable def bodyc98 : Code := (Try.f98.body).getD .skip
abbrev Sc98 : FL := ⟨⟨[(0, .ptr 1000000 0 1)], [.reg 1000000 (.cells [.fz (.int .u8)])], [(1000000, .env 0 0)]⟩, 1, [(.panic 125 0, ⟨[], [], []⟩), (.ret, ⟨[], [.env 0 (.c (.int .i64)), .reg 1000000 (.cells [.fz (.int .u8)])], []⟩)], [.tmp 2], true⟩
noncomputable def cc98 : Ctx Try.prog := ⟨ctab, ofL Ec97, ctabOk, Ec97_ok, cdep, cord⟩
abbrev lc98_0 : Lay := ⟨[], [.env 4 (.c (.int .i64)), .env 5 (.c (.fz (.int .u8))), .env 26 (.c (.fz (.int .u8))), .env 27 (.c (.int .i64)), .env 28 (.c (.int .i64)), .reg 1000000 (.cells [.fz (.int .u8)])], []⟩
abbrev oc98_0 : List (AExit × Lay) := [(.exit 0, ⟨[], [.env 4 (.c (.int .i64)), .env 5 (.c (.fz (.int .u8))), .reg 1000000 (.cells [.fz (.int .u8)])], []⟩)]
noncomputable def stepc98_0 : Int × (List Int) × (List Int) × Int × Int × (List Int) → Option ((Int × (List Int) × (List Int) × Int × Int × (List Int)) ⊕ ((Int × (List Int) × (List Int))))
  | (t4, t5, t26, t27, t28, r1000000) =>
  if (decide (t28 < t27)) = true then
   if (0 : Int) ≤ t28 ∧ t28 < (t26.length : Int) then
    let x8 : Int := (bitsOr .i64 (shlI .i64 t4 8) (IntKind.i64.wrap (t26.getD t28.toNat 0)))
    some (.inl (x8, t5, t26, t27, (IntKind.i64.wrap (t28 + 1)), r1000000))
   else none
  else
   some (.inr (t4, t5, r1000000))

noncomputable def annc98_0 : Ann := .none
noncomputable def Fc98 : (List Int) → Option ((Int × (Unit)) ⊕ (Int × (List Int)))
  | io =>
  (Fc96 io).bind fun
   | (.inl (e1, _)) =>
    some (.inl (e1, ()))
   | (.inr (y2, y3)) =>
    if (decide (y2 < 128)) = true then
     some (.inr ((IntKind.i64.wrap y2), y3))
    else
     if (y2 == 128) = false then
      if (decide (y2 > 131)) = true then
       (Fc69 124).bind fun (e4, _) =>
        some (.inl (e4, ()))
      else
       (Fc97 (y3, (IntKind.i64.wrap (bitsAnd .u8 y2 127)))).bind fun
        | (.inl (e5, _)) =>
         some (.inl (e5, ()))
        | (.inr (y6, y7)) =>
         (loopO stepc98_0 (0, y6, y6, (y6.length : Int), 0, y7)).bind fun (z9, z10, z11) =>
          if (0 : Int) ≤ (0 : Int) ∧ (0 : Int) < (z10.length : Int) then
           if ((z10.getD 0 0) == 0) = false then
            if (decide (z9 < 128)) = true then
             (Fc69 124).bind fun (e12, _) =>
              some (.inl (e12, ()))
            else
             some (.inr (z9, z11))
           else
            (Fc69 124).bind fun (e13, _) =>
             some (.inl (e13, ()))
          else none
     else
      (Fc69 124).bind fun (e14, _) =>
       some (.inl (e14, ()))

noncomputable def annc98 : Ann := (.seq .none (.seq .none (.seq .none (.seq .none (.seq .none (.seq .none (.seq (.seq .none (.seq (.cut (cutEnt lc98_0 oc98_0 (loopO (stepc98_0)))) .none)) .none)))))))
theorem eqc98_0 : ∀ s : lc98_0.T, exec ctab (ofL Ec97) 48 (Code.at' [1, 1, 1, 1, 1, 1, 0, 1, 0, 0] bodyc98) annc98_0 (fun e st => loopEnd (l := lc98_0) (outs := oc98_0) e st) (lc98_0.enc s) = stepc98_0 s := by
  rintro ⟨t4, t5, t26, t27, t28, r1000000⟩
  kernel_rfl
theorem okc98_0 : LOk Try.prog 48 (cutEnt lc98_0 oc98_0 (loopO stepc98_0)) (Code.at' [1, 1, 1, 1, 1, 1, 0, 1, 0] bodyc98) := by
  have e : Code.at' [1, 1, 1, 1, 1, 1, 0, 1, 0] bodyc98 = .loop (Code.at' [1, 1, 1, 1, 1, 1, 0, 1, 0, 0] bodyc98) := by kernel_rfl
  rw [e]
  refine loop_ok cc98 48 rfl rfl (annOk_of_cuts ?_) eqc98_0
  intro x hx
  exact absurd hx (by show x ∉ ([] : List (List Nat × LEnt)); simp)

theorem eqc98 : ∀ x : Sc98.inT, exec ctab (ofL Ec97) 48 bodyc98 annc98 (finL ctab Sc98) (Sc98.inp.enc x) = Fc98 x := by
  intro x
  kernel_rfl
theorem callsc98 : CallsL Try.prog 98 Sc98 Fc98 := by
  refine fun_callsL (fn := Try.f98) (c := bodyc98) (ann := annc98) cc98 (by kernel_rfl) (by kernel_rfl) (by kernel_rfl) (by kernel_rfl) (by kernel_rfl) (annOk_of_cuts ?_) eqc98
  have hc : Ann.cuts annc98 = [([1, 1, 1, 1, 1, 1, 0, 1, 0], (cutEnt lc98_0 oc98_0 (loopO (stepc98_0))))] := by kernel_rfl
  rw [hc]
  intro x hx
  simp only [List.mem_cons, List.not_mem_nil, or_false] at hx
  rcases hx with rfl
  · have e : Code.at' [1, 1, 1, 1, 1, 1, 0, 1, 0] bodyc98 = Code.at' [1, 1, 1, 1, 1, 1, 0, 1, 0] bodyc98 := by kernel_rfl
    rw [e]; exact okc98_0

theorem entc98 : EntOk Try.prog 98 (funEntL Sc98 true Fc98) := fun_okL (fn := Try.f98) (c := bodyc98) (by kernel_rfl) (by kernel_rfl) (by kernel_rfl) (by kernel_rfl) callsc98
noncomputable def Ec98 : List (Nat × Ent) := (98, (funEntL Sc98 true Fc98)) :: Ec97
theorem Ec98_ok : EntsOk Try.prog (ofL Ec98) := .cons entc98 Ec97_ok

/-! ### slices.Clone[[]byte,byte] -/
abbrev Sc50 : FL := ⟨⟨[], [.env 0 (.c (.fz (.int .u8)))], []⟩, 1, [(.ret, ⟨[(0, .full 1)], [.reg 1 (.row 5 .u8)], [(1, .env 0 0)]⟩)], [.tmp 2], false⟩
noncomputable def Fc50 : List Int → Option (List Int) := fun (x : List Int) => if okBytes x.length 1 then some x else none
noncomputable def bodyc50 : Code := (Try.f50.body).getD .skip
noncomputable def cc50 : Ctx Try.prog := ⟨ctab, ofL cE0, ctabOk, cE0_ok, cdep, cord⟩
noncomputable def oac50 : Array Oper := opsOf (Code.at' [0] bodyc50)
noncomputable def obc50 : Array Oper := opsOf (Code.at' [1, 0, 0] bodyc50)
theorem atc50 : bodyc50 = .seq (.region 0 oac50 false) (.seq (.seq (.region 1 obc50 false) (.cond (.tmp 4) (Code.at' [1, 0, 1, 0] bodyc50) .skip)) (Code.at' [1, 1] bodyc50)) := by kernel_rfl
theorem exac50 (x : List Int) : exec ctab (ofL cE0) 8 (Code.at' [1, 0, 1, 0] bodyc50) .none (finR ctab Sc50) (Sc50.inp.enc x) = some [] := by kernel_rfl
theorem exbc50 (x : List Int) : exec ctab (ofL cE0) 8 (Code.at' [1, 1] bodyc50) .none (finL ctab Sc50) (Sc50.inp.enc x) = if okBytes ((List.replicate 0 (0 : Int)).length + x.length) 1 then some ((List.replicate 0 (0 : Int)) ++ x) else none := by kernel_rfl

theorem callsc50 : CallsL Try.prog 50 Sc50 Fc50 := by
  intro us x y w fp β hlen hdfs hF R
  obtain ⟨anc, hb, dfs⟩ := fp
  have hdfs : dfs = [] := hdfs
  subst hdfs
  match us, hlen with
  | [v], _ =>
  have hok : okBytes (List.length (α := Int) x) 1 ∧ y = x := by
    unfold Fc50 at hF
    split at hF
    · rename_i h; exact ⟨h, (Option.some.inj hF).symm⟩
    · cases hF
  obtain ⟨hok, rfl⟩ := hok
  have h0 := R.env 0 _ rfl
  simp only [AVRel, CVRel] at h0
  have h1 : ∃ A cap, v = .slice A (List.length (α := Int) y) cap ∧ (A = none → y = [] ∧ cap = 0) := by
    cases h0 with
    | fz _ _ _ A c hn hc h0 hat => exact ⟨A, c, rfl, h0⟩
  obtain ⟨A, cap, rfl, hA⟩ := h1
  refine calls_of_wp (fn := Try.f50) (c := bodyc50) (by kernel_rfl) (by kernel_rfl) ?_
  have n8 : Try.f50.ntmps = 8 := by kernel_rfl
  have d0 : (opAt oac50 0).dst = some 2 := by kernel_rfl
  have d1 : (opAt obc50 0).dst = some 3 := by kernel_rfl
  have d2 : (opAt obc50 1).dst = some 4 := by kernel_rfl
  rw [atc50, n8]
  refine wp_seq (wp_region ?_)
  have r0 : List.range oac50.size = [0] := by kernel_rfl
  rw [r0]
  refine wpOps_val (o := opAt oac50 0) (v := .slice none 0 0) (w' := w) (by kernel_rfl) (by kernel_rfl) (by kernel_rfl) ?_
  refine wp_seq (wp_seq (wp_region ?_))
  have r1 : List.range obc50.size = [0, 1] := by kernel_rfl
  rw [r1]
  refine wpOps_val (o := opAt obc50 0) (v := .slice A (List.length (α := Int) y) cap) (w' := w) (by kernel_rfl) (by kernel_rfl) (by kernel_rfl) ?_
  cases A with
  | none =>
    obtain ⟨rfl, rfl⟩ := hA rfl
    refine wpOps_val (o := opAt obc50 1) (v := .bool true) (w' := w) (by kernel_rfl) (by kernel_rfl) (by kernel_rfl) ?_
    rw [d0, d1, d2]
    refine wp_cond_true rfl ?_
    refine wp_mono (rest_callsR cc50 (fn := Try.f50) (S := Sc50) (c := Code.at' [1, 0, 1, 0] bodyc50) (ann := .none) (y := []) (w := w) (fp := ⟨anc, hb, []⟩) (β := β) (by kernel_rfl) (by kernel_rfl) (by kernel_rfl) (annOk_of_cuts (fun x hx => absurd hx (by show x ∉ ([] : List (List Nat × LEnt)); simp))) rfl (exac50 []) ?_) ?_
    · rw [n8]
      refine R.act rfl rfl (by decide) (fun t av ht => ?_)
      have := R.env t av ht
      cases t with
      | zero => exact this
      | succ t => cases ht
    · intro e a w' h
      cases e <;> first | exact h | exact h.elim
  | some a' =>
    refine wpOps_val (o := opAt obc50 1) (v := .bool false) (w' := w) (by kernel_rfl) (by kernel_rfl) (by kernel_rfl) ?_
    rw [d0, d1, d2]
    refine wp_cond_false rfl (wp_skip ?_)
    have ex := exbc50 y
    rw [if_pos (by simpa using hok)] at ex
    have e1 : List.replicate 0 (0 : Int) ++ y = y := rfl
    rw [e1] at ex
    refine wp_mono (rest_callsL cc50 (fn := Try.f50) (S := Sc50) (c := Code.at' [1, 1] bodyc50) (ann := .none) (y := y) (w := w) (fp := ⟨anc, hb, []⟩) (β := β) (by kernel_rfl) (by kernel_rfl) (by kernel_rfl) (annOk_of_cuts (fun x hx => absurd hx (by show x ∉ ([] : List (List Nat × LEnt)); simp))) rfl ex ?_) ?_
    · rw [n8]
      refine R.act rfl (by simp [Act.put]) (by decide) (fun t av ht => ?_)
      have := R.env t av ht
      cases t with
      | zero =>
        generalize hq : (Value.slice (some a') (List.length (α := Int) y) cap) = q at this ⊢
        simpa [Act.put] using this
      | succ t => cases ht
    · intro e a w' h
      exact h
theorem entc50 : EntOk Try.prog 50 (funEntL Sc50 true Fc50) := fun_okL (fn := Try.f50) (c := bodyc50) (by kernel_rfl) (by kernel_rfl) (by kernel_rfl) (by kernel_rfl) callsc50

noncomputable def Ec50 : List (Nat × Ent) := (50, funEntL Sc50 true Fc50) :: Ec98
theorem Ec50_ok : EntsOk Try.prog (ofL Ec50) := .cons entc50 Ec98_ok

/-! ### (*barbican/der.reader).item -/
noncomputable def bodyc68 : Code := (Try.f68.body).getD .skip
abbrev Sc68 : FL := ⟨⟨[(0, .ptr 1000000 0 1)], [.reg 1000000 (.cells [.fz (.int .u8)]), .env 1 (.c (.int .i64))], [(1000000, .env 0 0)]⟩, 2, [(.ret, ⟨[], [.env 0 (.dat .item), .reg 1000000 (.cells [.fz (.int .u8)])], []⟩), (.panic 125 0, ⟨[], [], []⟩)], [.cell 4 58], true⟩
noncomputable def cc68 (G : Sc68.inT → Option Sc68.outT) (hG : CallsL Try.prog 68 Sc68 G) : Ctx Try.prog := ⟨ctab, ofL ((68, funEntL Sc68 true G) :: Ec50), ctabOk, .cons (fun_okL (fn := Try.f68) (c := bodyc68) (by kernel_rfl) (by kernel_rfl) (by kernel_rfl) (by kernel_rfl) hG) Ec50_ok, cdep, cord⟩
abbrev lc68_0 : Lay := ⟨[(4, .ptr 4 0 3), (5, .ptr 5 0 3), (7, .ptr 33 0 1)], [.env 1 (.c (.int .i64)), .reg 4 (.cells [.int .u8, .nils, .nils]), .reg 5 (.cells [.int .u8, .nils, .full 600322]), .reg 600322 (.rowd 58 .item), .reg 33 (.cells [.fz (.int .u8)]), .reg 1000000 (.cells [.fz (.int .u8)])], [(4, .env 4 0), (5, .env 5 0), (33, .env 7 0), (600322, .reg 5 2)]⟩
abbrev oc68_0 : List (AExit × Lay) := [(.panic 125 0, ⟨[], [], []⟩), (.exit 0, ⟨[(4, .ptr 4 0 3), (5, .ptr 5 0 3)], [.reg 4 (.cells [.int .u8, .nils, .nils]), .reg 5 (.cells [.int .u8, .nils, .full 600322]), .reg 600322 (.rowd 58 .item), .reg 1000000 (.cells [.fz (.int .u8)])], [(4, .env 4 0), (5, .env 5 0), (600322, .reg 5 2)]⟩)]
noncomputable def stepc68_0 (G : (List Int) × Int → Option ((Tree × (List Int)) ⊕ (Int × (Unit)))) : Int × (Int × Unit × Unit) × (Int × Unit × Unit) × List Tree × (List Int) × (List Int) → Option ((Int × (Int × Unit × Unit) × (Int × Unit × Unit) × List Tree × (List Int) × (List Int)) ⊕ ((Int × (Unit)) ⊕ ((Int × Unit × Unit) × (Int × Unit × Unit) × List Tree × (List Int))))
  | (t1, r4, r5, r600322, r33, r1000000) =>
  if (decide ((r33.length : Int) > 0)) = true then
   (G (r33, (IntKind.i64.wrap (t1 + 1)))).bind fun
    | (.inl (y14, y15)) =>
     if okBytes (r600322.length + ([(Tree.node y14.tag y14.body y14.kids)] : List Tree).length) 56 then
      let f16 : List Tree := (r600322 ++ ([(Tree.node y14.tag y14.body y14.kids)] : List Tree))
      some (.inl (t1, (r4.1, (), ()), (r5.1, (), ()), f16, y15, r1000000))
     else none
    | (.inr (e17, _)) =>
     some (.inr (.inl (e17, ())))
  else
   some (.inr (.inr ((r4.1, (), ()), (r5.1, (), ()), r600322, r1000000)))

noncomputable def annc68_0 (G : (List Int) × Int → Option ((Tree × (List Int)) ⊕ (Int × (Unit)))) : Ann := .none
noncomputable def Bc68 (G : (List Int) × Int → Option ((Tree × (List Int)) ⊕ (Int × (Unit)))) : (List Int) × Int → Option ((Tree × (List Int)) ⊕ (Int × (Unit)))
  | (io, a1) =>
  if (decide (a1 > 16)) = true then
   (Fc69 125).bind fun (e1, _) =>
    some (.inr (e1, ()))
  else
   (Fc96 io).bind fun
    | (.inl (e2, _)) =>
     some (.inr (e2, ()))
    | (.inr (y3, y4)) =>
     if ((bitsAnd .u8 y3 31) == 31) = true then
      (Fc69 123).bind fun (e5, _) =>
       some (.inr (e5, ()))
     else
      (Fc98 y4).bind fun
       | (.inl (e6, _)) =>
        some (.inr (e6, ()))
       | (.inr (y7, y8)) =>
        (Fc97 (y8, y7)).bind fun
         | (.inl (e9, _)) =>
          some (.inr (e9, ()))
         | (.inr (y10, y11)) =>
          (Fc99 y3).bind fun y12 =>
           if (!y12) = true then
            (Fc50 y10).bind fun y13 =>
             some (.inl ((Tree.node y3 y13 ([] : List Tree)), y11))
           else
            (loopO (stepc68_0 G) (a1, (0, (), ()), (y3, (), ()), ([] : List Tree), y10, y11)).bind fun
             | (.inl (e18, _)) =>
              some (.inr (e18, ()))
             | (.inr (z19, z20, z21, z22)) =>
              some (.inl ((Tree.node z20.1 ([] : List Int) z21), z22))

noncomputable def annc68 (G : (List Int) × Int → Option ((Tree × (List Int)) ⊕ (Int × (Unit)))) : Ann := (.seq .none (.seq .none (.seq .none (.seq .none (.seq .none (.seq .none (.seq (.seq .none (.seq (.cut (cutEnt lc68_0 oc68_0 (loopO (stepc68_0 G)))) .none)) .none)))))))
theorem eqc68_0 (G : Sc68.inT → Option Sc68.outT) (hG : CallsL Try.prog 68 Sc68 G) : ∀ s : lc68_0.T, exec ctab (ofL ((68, funEntL Sc68 true G) :: Ec50)) 50 (Code.at' [1, 1, 1, 1, 1, 1, 0, 1, 0, 0] bodyc68) (annc68_0 G) (fun e st => loopEnd (l := lc68_0) (outs := oc68_0) e st) (lc68_0.enc s) = stepc68_0 G s := by
  rintro ⟨t1, r4, r5, r600322, r33, r1000000⟩
  kernel_rfl
theorem okc68_0 (G : Sc68.inT → Option Sc68.outT) (hG : CallsL Try.prog 68 Sc68 G) : LOk Try.prog 50 (cutEnt lc68_0 oc68_0 (loopO (stepc68_0 G))) (Code.at' [1, 1, 1, 1, 1, 1, 0, 1, 0] bodyc68) := by
  have e : Code.at' [1, 1, 1, 1, 1, 1, 0, 1, 0] bodyc68 = .loop (Code.at' [1, 1, 1, 1, 1, 1, 0, 1, 0, 0] bodyc68) := by kernel_rfl
  rw [e]
  refine loop_ok (cc68 G hG) 50 rfl rfl (annOk_of_cuts ?_) (eqc68_0 G hG)
  intro x hx
  exact absurd hx (by show x ∉ ([] : List (List Nat × LEnt)); simp)

theorem eqc68 (G : Sc68.inT → Option Sc68.outT) (hG : CallsL Try.prog 68 Sc68 G) : ∀ x : Sc68.inT, exec ctab (ofL ((68, funEntL Sc68 true G) :: Ec50)) 50 bodyc68 (annc68 G) (finL ctab Sc68) (Sc68.inp.enc x) = Bc68 G x := by
  rintro ⟨io, a1⟩
  kernel_rfl
theorem bcallsc68 (G : Sc68.inT → Option Sc68.outT) (hG : CallsL Try.prog 68 Sc68 G) : CallsL Try.prog 68 Sc68 (Bc68 G) := by
  refine fun_callsL (fn := Try.f68) (c := bodyc68) (ann := (annc68 G)) (cc68 G hG) (by kernel_rfl) (by kernel_rfl) (by kernel_rfl) (by kernel_rfl) (by kernel_rfl) (annOk_of_cuts ?_) (eqc68 G hG)
  have hc : Ann.cuts (annc68 G) = [([1, 1, 1, 1, 1, 1, 0, 1, 0], (cutEnt lc68_0 oc68_0 (loopO (stepc68_0 G))))] := by kernel_rfl
  rw [hc]
  intro x hx
  simp only [List.mem_cons, List.not_mem_nil, or_false] at hx
  rcases hx with rfl
  · have e : Code.at' [1, 1, 1, 1, 1, 1, 0, 1, 0] bodyc68 = Code.at' [1, 1, 1, 1, 1, 1, 0, 1, 0] bodyc68 := by kernel_rfl
    rw [e]; exact okc68_0 G hG

noncomputable def FRc68 : Nat → (List Int) × Int → Option ((Tree × (List Int)) ⊕ (Int × (Unit)))
  | 0 => fun _ => none
  | k + 1 => Bc68 (FRc68 k)
theorem rcallsc68 : ∀ k, CallsL Try.prog 68 Sc68 (FRc68 k)
  | 0 => fun _ _ _ _ _ _ _ _ h => by cases h
  | k + 1 => bcallsc68 (FRc68 k) (rcallsc68 k)
noncomputable def Fc68 (x : (List Int) × Int) : Option ((Tree × (List Int)) ⊕ (Int × (Unit))) := FRc68 (20) x
theorem callsc68 : CallsL Try.prog 68 Sc68 Fc68 := fun us x y w fp β h1 h2 h3 h4 => rcallsc68 _ us x y w fp β h1 h2 h3 h4
theorem entc68 : EntOk Try.prog 68 (funEntL Sc68 true Fc68) := fun_okL (fn := Try.f68) (c := bodyc68) (by kernel_rfl) (by kernel_rfl) (by kernel_rfl) (by kernel_rfl) callsc68
noncomputable def Ec68 : List (Nat × Ent) := (68, (funEntL Sc68 true Fc68)) :: Ec50
theorem Ec68_ok : EntsOk Try.prog (ofL Ec68) := .cons entc68 Ec50_ok

/-! ### barbican/der.Decode -/

abbrev Sc41 : FL := ⟨⟨[], [.env 0 (.c (.fz (.int .u8)))], []⟩, 1, [(.ret, ⟨[], [.env 0 (.dat .item), .env 1 (.c (.int .i64))], []⟩)], [.cell 2 58, .cell 3 27], true⟩
noncomputable def bodyc41 : Code := (Try.f41.body).getD .skip
noncomputable def oac41 : Array Oper := opsOf (Code.at' [1, 0] bodyc41)
theorem atc41 : bodyc41 = .seq (Code.at' [0] bodyc41) (.seq (.region 1 oac41 false) (Code.at' [1, 1] bodyc41)) := by kernel_rfl
abbrev SMc41 : FL := ⟨⟨[(2, .ptr 1000001 0 3), (3, .ptr 1000000 0 1)], [.env 0 (.c (.fz (.int .u8))), .reg 1000000 (.cells [.int .i64]), .reg 1000001 (.cells [.int .u8, .fz (.int .u8), .fz .item])], [(1000000, .env 3 0), (1000001, .env 2 0)]⟩, 4, [(.ret, ⟨[], [.env 0 (.dat .item), .env 1 (.c (.int .i64))], []⟩)], [.cell 2 58, .cell 3 27], true⟩
noncomputable def cc41 : Ctx Try.prog := ⟨ctab, ofL Ec68, ctabOk, Ec68_ok, cdep, cord⟩
noncomputable def FMc41 : List Int × Int × (Int × List Int × List Tree) → Option (Tree × Int) := fun (b, e, i) =>
    if (decide ((b.length : Int) > 65536)) = true then some (Tree.node 0 [] [], 121)
    else (Fc68 (b, 1)).bind fun
      | .inr (n, _) => (FPc66 n (e, i)).bind fun (e', t, bb, k) => some (Tree.node t bb k, e')
      | .inl (it, rest) =>
        if (decide ((rest.length : Int) > 0)) = true then
          (Fc69 126).bind fun (n, _) => (FPc66 n (e, it.tag, it.body, it.kids)).bind fun (e', t, bb, k) => some (Tree.node t bb k, e')
        else some (Tree.node it.tag it.body it.kids, 0)
noncomputable def Fc41 : List Int → Option (Tree × Int) := fun (b : List Int) => (FMc41 (b, 0, (0, [], []))).bind fun (i, e) => some (Tree.node i.tag i.body i.kids, e)
theorem eqMc41 : ∀ x, exec ctab (ofL Ec68) 23 (Code.at' [1, 1] bodyc41) .none (finD ctab SMc41 [3, 2] (SMc41.inp.enc x) (funEntL Sc66 false FRc66) 125 (fun n => funEntL Sc66 false (FPc66 n))) (SMc41.inp.enc x) = FMc41 x := by
  rintro ⟨b, e, i⟩
  kernel_rfl
theorem eqc41 : ∀ x, deferF ctab (ofL Ec68) 23 (Code.at' [0] bodyc41) .none Sc41 SMc41 [0, 2, 3] 5 FMc41 x = Fc41 x := by
  intro b
  kernel_rfl
theorem callsc41 : CallsL Try.prog 41 Sc41 Fc41 :=
  defer_callsL cc41 (fn := Try.f41) (fnc := Try.f66) (A := Code.at' [0] bodyc41) (rest := Code.at' [1, 1] bodyc41) (id := 1) (ops := oac41) (cc := bodyc66) (o0 := opAt oac41 0) (o1 := opAt oac41 1) (tc := 5) (pt := 125) (cs := [3, 2]) (kn := [0, 2, 3]) (SM := SMc41) (SC := Sc66) (annA := .none) (ann := .none) (FR := FRc66) (FPn := FPc66) (FM := FMc41)
    (by kernel_rfl) (by kernel_rfl) (by kernel_rfl) (by kernel_rfl) (by kernel_rfl) (by kernel_rfl) (by kernel_rfl) (by kernel_rfl) (by kernel_rfl) (by kernel_rfl)
    (fun a w => by kernel_rfl) (fun a w vs h => defer_run (o := opAt oac41 1) (ats := #[]) (by kernel_rfl) h)
    (by kernel_rfl) (by kernel_rfl) (by kernel_rfl) (by kernel_rfl) okc66 (by kernel_rfl) (by kernel_rfl) (by kernel_rfl) (by kernel_rfl) (by kernel_rfl) (by kernel_rfl) (by kernel_rfl)
    noCuts noCuts eqMc41 eqc41
theorem entc41 : EntOk Try.prog 41 (funEntL Sc41 true Fc41) := fun_okL (fn := Try.f41) (c := bodyc41) (by kernel_rfl) (by kernel_rfl) (by kernel_rfl) (by kernel_rfl) callsc41

noncomputable def Ec41 : List (Nat × Ent) := (41, funEntL Sc41 true Fc41) :: Ec68
theorem Ec41_ok : EntsOk Try.prog (ofL Ec41) := .cons entc41 Ec68_ok

/-! ### barbican/cert.refuse -/
abbrev Sc44 : FL := ⟨⟨[], [.env 0 (.c (.int .i64))], []⟩, 1, [(.panic 75 0, ⟨[], [], []⟩)], [], false⟩
noncomputable def Fc44 : Int → Option (Int × Unit) := fun x => some (x, ())
noncomputable def bodyc44 : Code := (Try.f44.body).getD .skip
noncomputable def opsc44 : Array Oper := opsOf bodyc44
theorem callsc44 : CallsL Try.prog 44 Sc44 Fc44 := by
  intro us x y w fp β hlen hdfs hF R
  match us, hlen with
  | [v], _ =>
  have hv : v = .int .i64 x := by
    have := R.env 0 _ rfl
    simp only [AVRel, CVRel] at this
    exact this
  subst hv
  cases hF
  refine calls_of_wp (fn := Try.f44) (c := bodyc44) (by kernel_rfl) (by kernel_rfl) ?_
  have hb : bodyc44 = .region 0 opsc44 false := by kernel_rfl
  rw [hb]
  refine wp_region ?_
  have hs : List.range opsc44.size = [0, 1, 2, 3] := by kernel_rfl
  rw [hs]
  refine wpOps_val (o := opAt opsc44 0) (v := .int .i64 x) (w' := w) (by kernel_rfl) (by kernel_rfl) (by kernel_rfl) ?_
  refine wpOps_val (o := opAt opsc44 1) (v := .agg #[.int .i64 x]) (w' := w) (by kernel_rfl) (by kernel_rfl) (by kernel_rfl) ?_
  refine wpOps_val (o := opAt opsc44 2) (v := .iface 75 (.agg #[.int .i64 x])) (w' := w) (by kernel_rfl) (by kernel_rfl) (by kernel_rfl) ?_
  refine wpOps_halt (o := opAt opsc44 3) (v := .iface 75 (.agg #[.int .i64 x])) (w' := w) (by kernel_rfl) (by kernel_rfl) (by kernel_rfl) ?_
  have hfp : fp = ⟨fp.anc, fp.hb, []⟩ := by cases fp; simp only at hdfs; subst hdfs; rfl
  have R2 : Rel Try.prog w fp 0 β { env := fun _ => none, heap := (Sc44.inp.enc x).heap } { tmps := #[], defers := [] } w := by
    rw [hfp]
    exact (hfp ▸ R).act rfl rfl (Nat.zero_le _) (fun t av ht => by cases ht)
  exact ⟨rfl, β, [], R2, rfl, fun h => absurd rfl (h 75 x)⟩
theorem entc44 : EntOk Try.prog 44 (funEntL Sc44 true Fc44) := fun_okL (fn := Try.f44) (c := bodyc44) (by kernel_rfl) (by kernel_rfl) (by kernel_rfl) (by kernel_rfl) callsc44

noncomputable def Ec44 : List (Nat × Ent) := (44, funEntL Sc44 true Fc44) :: Ec41
theorem Ec44_ok : EntsOk Try.prog (ofL Ec44) := .cons entc44 Ec41_ok

/-! ### barbican/cert.form -/
noncomputable def bodyc71 : Code := (Try.f71.body).getD .skip
abbrev Sc71 : FL := ⟨⟨[], [.env 0 (.c (.bool))], []⟩, 1, [(.panic 75 0, ⟨[], [], []⟩), (.ret, ⟨[], [], []⟩)], [], false⟩
noncomputable def cc71 : Ctx Try.prog := ⟨ctab, ofL Ec44, ctabOk, Ec44_ok, cdep, cord⟩
noncomputable def Fc71 : Bool → Option ((Int × (Unit)) ⊕ (Unit))
  | a0 =>
  if (!a0) = true then
   (Fc44 131).bind fun (e1, _) =>
    some (.inl (e1, ()))
  else
   some (.inr ())

noncomputable def annc71 : Ann := .none
theorem eqc71 : ∀ x : Sc71.inT, exec ctab (ofL Ec44) 5 bodyc71 annc71 (finL ctab Sc71) (Sc71.inp.enc x) = Fc71 x := by
  intro x
  kernel_rfl
theorem callsc71 : CallsL Try.prog 71 Sc71 Fc71 := by
  refine fun_callsL (fn := Try.f71) (c := bodyc71) (ann := annc71) cc71 (by kernel_rfl) (by kernel_rfl) (by kernel_rfl) (by kernel_rfl) (by kernel_rfl) (annOk_of_cuts ?_) eqc71
  intro x hx
  exact absurd hx (by show x ∉ ([] : List (List Nat × LEnt)); simp)

theorem entc71 : EntOk Try.prog 71 (funEntL Sc71 true Fc71) := fun_okL (fn := Try.f71) (c := bodyc71) (by kernel_rfl) (by kernel_rfl) (by kernel_rfl) (by kernel_rfl) callsc71
noncomputable def Ec71 : List (Nat × Ent) := (71, (funEntL Sc71 true Fc71)) :: Ec44
theorem Ec71_ok : EntsOk Try.prog (ofL Ec71) := .cons entc71 Ec44_ok

/-! ### barbican/cert.kids -/
noncomputable def bodyc70 : Code := (Try.f70.body).getD .skip
abbrev Sc70 : FL := ⟨⟨[], [.env 0 (.dat .item), .env 1 (.c (.int .u8)), .env 2 (.c (.int .i64))], []⟩, 3, [(.panic 75 0, ⟨[], [], []⟩), (.ret, ⟨[], [.env 0 (.c (.fz .item))], []⟩)], [.tmp 6], true⟩
noncomputable def cc70 : Ctx Try.prog := ⟨ctab, ofL Ec71, ctabOk, Ec71_ok, cdep, cord⟩
noncomputable def Fc70 : Tree × Int × Int → Option ((Int × (Unit)) ⊕ ((List Tree)))
  | (a0, a1, a2) =>
  if (a0.tag == a1) = true then
   (Fc71 ((a0.kids.length : Int) == a2)).bind fun
    | (.inl (e1, _)) =>
     some (.inl (e1, ()))
    | (.inr _) =>
     some (.inr a0.kids)
  else
   (Fc71 false).bind fun
    | (.inl (e2, _)) =>
     some (.inl (e2, ()))
    | (.inr _) =>
     some (.inr a0.kids)

noncomputable def annc70 : Ann := .none
theorem eqc70 : ∀ x : Sc70.inT, exec ctab (ofL Ec71) 21 bodyc70 annc70 (finL ctab Sc70) (Sc70.inp.enc x) = Fc70 x := by
  rintro ⟨a0, a1, a2⟩
  kernel_rfl
theorem callsc70 : CallsL Try.prog 70 Sc70 Fc70 := by
  refine fun_callsL (fn := Try.f70) (c := bodyc70) (ann := annc70) cc70 (by kernel_rfl) (by kernel_rfl) (by kernel_rfl) (by kernel_rfl) (by kernel_rfl) (annOk_of_cuts ?_) eqc70
  intro x hx
  exact absurd hx (by show x ∉ ([] : List (List Nat × LEnt)); simp)

theorem entc70 : EntOk Try.prog 70 (funEntL Sc70 true Fc70) := fun_okL (fn := Try.f70) (c := bodyc70) (by kernel_rfl) (by kernel_rfl) (by kernel_rfl) (by kernel_rfl) callsc70
noncomputable def Ec70 : List (Nat × Ent) := (70, (funEntL Sc70 true Fc70)) :: Ec71
theorem Ec70_ok : EntsOk Try.prog (ofL Ec70) := .cons entc70 Ec71_ok

/-! ### barbican/der.plain -/
noncomputable def bodyc88 : Code := (Try.f88.body).getD .skip
abbrev Sc88 : FL := ⟨⟨[], [.env 0 (.c (.fzp .item)), .env 1 (.c (.int .u8))], []⟩, 2, [(.ret, ⟨[], [.env 0 (.c (.int .i64))], []⟩)], [.tmp 4], false⟩
noncomputable def cc88 : Ctx Try.prog := ⟨ctab, ofL Ec70, ctabOk, Ec70_ok, cdep, cord⟩
noncomputable def Fc88 : Tree × Int → Option ((Int))
  | (a0, a1) =>
  if (a0.tag != a1) = true then
   some 123
  else
   if (decide ((a0.kids.length : Int) > 0)) = false then
    if ((a0.body.length : Int) == 0) = true then
     some 127
    else
     some 0
   else
    some 127

noncomputable def annc88 : Ann := .none
theorem eqc88 : ∀ x : Sc88.inT, exec ctab (ofL Ec70) 27 bodyc88 annc88 (finL ctab Sc88) (Sc88.inp.enc x) = Fc88 x := by
  rintro ⟨a0, a1⟩
  kernel_rfl
theorem callsc88 : CallsL Try.prog 88 Sc88 Fc88 := by
  refine fun_callsL (fn := Try.f88) (c := bodyc88) (ann := annc88) cc88 (by kernel_rfl) (by kernel_rfl) (by kernel_rfl) (by kernel_rfl) (by kernel_rfl) (annOk_of_cuts ?_) eqc88
  intro x hx
  exact absurd hx (by show x ∉ ([] : List (List Nat × LEnt)); simp)

theorem entc88 : EntOk Try.prog 88 (funEntL Sc88 true Fc88) := fun_okL (fn := Try.f88) (c := bodyc88) (by kernel_rfl) (by kernel_rfl) (by kernel_rfl) (by kernel_rfl) callsc88
noncomputable def Ec88 : List (Nat × Ent) := (88, (funEntL Sc88 true Fc88)) :: Ec70
theorem Ec88_ok : EntsOk Try.prog (ofL Ec88) := .cons entc88 Ec70_ok

/-! ### barbican/der.Uint -/
noncomputable def bodyc52 : Code := (Try.f52.body).getD .skip
abbrev Sc52 : FL := ⟨⟨[], [.env 0 (.dat .item)], []⟩, 1, [(.ret, ⟨[], [.env 0 (.c (.int .u64)), .env 1 (.c (.int .i64))], []⟩)], [.tmp 2, .tmp 3], false⟩
noncomputable def cc52 : Ctx Try.prog := ⟨ctab, ofL Ec88, ctabOk, Ec88_ok, cdep, cord⟩
abbrev lc52_0 : Lay := ⟨[], [.env 6 (.c (.int .u64)), .env 52 (.c (.fz (.int .u8))), .env 53 (.c (.int .i64)), .env 54 (.c (.int .i64))], []⟩
abbrev oc52_0 : List (AExit × Lay) := [(.exit 0, ⟨[], [.env 6 (.c (.int .u64))], []⟩)]
noncomputable def stepc52_0 : Int × (List Int) × Int × Int → Option ((Int × (List Int) × Int × Int) ⊕ ((Int)))
  | (t6, t52, t53, t54) =>
  if (decide (t54 < t53)) = true then
   if (0 : Int) ≤ t54 ∧ t54 < (t52.length : Int) then
    let x2 : Int := (bitsOr .u64 (shlI .u64 t6 8) (IntKind.u64.wrap (t52.getD t54.toNat 0)))
    some (.inl (x2, t52, t53, (IntKind.i64.wrap (t54 + 1))))
   else none
  else
   some (.inr t6)

noncomputable def annc52_0 : Ann := .none
noncomputable def Fc52 : Tree → Option ((Int × Int))
  | a0 =>
  (Fc88 ((Tree.node a0.tag a0.body a0.kids), 2)).bind fun y1 =>
   if (y1 != 0) = true then
    some (0, y1)
   else
    if (0 : Int) ≤ (0 : Int) ∧ (0 : Int) < (a0.body.length : Int) then
     if (decide ((a0.body.getD 0 0) ≥ 128)) = false then
      if (0 : Int) ≤ (0 : Int) ∧ (0 : Int) < (a0.body.length : Int) then
       if ((a0.body.getD 0 0) == 0) = true then
        if (decide ((a0.body.length : Int) > 1)) = true then
         if (0 : Int) ≤ (1 : Int) ∧ (1 : Int) < (a0.body.length : Int) then
          if (decide ((a0.body.getD 1 0) < 128)) = false then
           if (decide ((a0.body.length : Int) > 9)) = false then
            if ((a0.body.length : Int) == 9) = true then
             if (0 : Int) ≤ (0 : Int) ∧ (0 : Int) < (a0.body.length : Int) then
              if ((a0.body.getD 0 0) != 0) = true then
               some (0, 127)
              else
               (loopO stepc52_0 (0, a0.body, (a0.body.length : Int), 0)).bind fun z3 =>
                some (z3, 0)
             else none
            else
             (loopO stepc52_0 (0, a0.body, (a0.body.length : Int), 0)).bind fun z4 =>
              some (z4, 0)
           else
            some (0, 127)
          else
           some (0, 127)
         else none
        else
         if (decide ((a0.body.length : Int) > 9)) = false then
          if ((a0.body.length : Int) == 9) = true then
           if (0 : Int) ≤ (0 : Int) ∧ (0 : Int) < (a0.body.length : Int) then
            if ((a0.body.getD 0 0) != 0) = true then
             some (0, 127)
            else
             (loopO stepc52_0 (0, a0.body, (a0.body.length : Int), 0)).bind fun z5 =>
              some (z5, 0)
           else none
          else
           (loopO stepc52_0 (0, a0.body, (a0.body.length : Int), 0)).bind fun z6 =>
            some (z6, 0)
         else
          some (0, 127)
       else
        if (decide ((a0.body.length : Int) > 9)) = false then
         if ((a0.body.length : Int) == 9) = true then
          if (0 : Int) ≤ (0 : Int) ∧ (0 : Int) < (a0.body.length : Int) then
           if ((a0.body.getD 0 0) != 0) = true then
            some (0, 127)
           else
            (loopO stepc52_0 (0, a0.body, (a0.body.length : Int), 0)).bind fun z7 =>
             some (z7, 0)
          else none
         else
          (loopO stepc52_0 (0, a0.body, (a0.body.length : Int), 0)).bind fun z8 =>
           some (z8, 0)
        else
         some (0, 127)
      else none
     else
      some (0, 127)
    else none

noncomputable def annc52 : Ann := (.seq .none (.seq .none (.seq .none (.seq .none (.seq .none (.seq (.seq .none (.seq (.cut (cutEnt lc52_0 oc52_0 (loopO (stepc52_0)))) .none)) .none))))))
theorem eqc52_0 : ∀ s : lc52_0.T, exec ctab (ofL Ec88) 65 (Code.at' [1, 1, 1, 1, 1, 0, 1, 0, 0] bodyc52) annc52_0 (fun e st => loopEnd (l := lc52_0) (outs := oc52_0) e st) (lc52_0.enc s) = stepc52_0 s := by
  rintro ⟨t6, t52, t53, t54⟩
  kernel_rfl
theorem okc52_0 : LOk Try.prog 65 (cutEnt lc52_0 oc52_0 (loopO stepc52_0)) (Code.at' [1, 1, 1, 1, 1, 0, 1, 0] bodyc52) := by
  have e : Code.at' [1, 1, 1, 1, 1, 0, 1, 0] bodyc52 = .loop (Code.at' [1, 1, 1, 1, 1, 0, 1, 0, 0] bodyc52) := by kernel_rfl
  rw [e]
  refine loop_ok cc52 65 rfl rfl (annOk_of_cuts ?_) eqc52_0
  intro x hx
  exact absurd hx (by show x ∉ ([] : List (List Nat × LEnt)); simp)

theorem eqc52 : ∀ x : Sc52.inT, exec ctab (ofL Ec88) 65 bodyc52 annc52 (finL ctab Sc52) (Sc52.inp.enc x) = Fc52 x := by
  intro x
  kernel_rfl
theorem callsc52 : CallsL Try.prog 52 Sc52 Fc52 := by
  refine fun_callsL (fn := Try.f52) (c := bodyc52) (ann := annc52) cc52 (by kernel_rfl) (by kernel_rfl) (by kernel_rfl) (by kernel_rfl) (by kernel_rfl) (annOk_of_cuts ?_) eqc52
  have hc : Ann.cuts annc52 = [([1, 1, 1, 1, 1, 0, 1, 0], (cutEnt lc52_0 oc52_0 (loopO (stepc52_0))))] := by kernel_rfl
  rw [hc]
  intro x hx
  simp only [List.mem_cons, List.not_mem_nil, or_false] at hx
  rcases hx with rfl
  · have e : Code.at' [1, 1, 1, 1, 1, 0, 1, 0] bodyc52 = Code.at' [1, 1, 1, 1, 1, 0, 1, 0] bodyc52 := by kernel_rfl
    rw [e]; exact okc52_0

theorem entc52 : EntOk Try.prog 52 (funEntL Sc52 true Fc52) := fun_okL (fn := Try.f52) (c := bodyc52) (by kernel_rfl) (by kernel_rfl) (by kernel_rfl) (by kernel_rfl) callsc52
noncomputable def Ec52 : List (Nat × Ent) := (52, (funEntL Sc52 true Fc52)) :: Ec88
theorem Ec52_ok : EntsOk Try.prog (ofL Ec52) := .cons entc52 Ec88_ok

/-! ### barbican/cert.must[uint64] -/
noncomputable def bodyc72 : Code := (Try.f72.body).getD .skip
abbrev Sc72 : FL := ⟨⟨[], [.env 0 (.c (.int .u64)), .env 1 (.c (.int .i64))], []⟩, 2, [(.panic 75 0, ⟨[], [], []⟩), (.ret, ⟨[], [.env 0 (.c (.int .u64))], []⟩)], [.tmp 4], false⟩
noncomputable def cc72 : Ctx Try.prog := ⟨ctab, ofL Ec52, ctabOk, Ec52_ok, cdep, cord⟩
noncomputable def Fc72 : Int × Int → Option ((Int × (Unit)) ⊕ (Int))
  | (a0, a1) =>
  (Fc71 (a1 == 0)).bind fun
   | (.inl (e1, _)) =>
    some (.inl (e1, ()))
   | (.inr _) =>
    some (.inr a0)

noncomputable def annc72 : Ann := .none
theorem eqc72 : ∀ x : Sc72.inT, exec ctab (ofL Ec52) 9 bodyc72 annc72 (finL ctab Sc72) (Sc72.inp.enc x) = Fc72 x := by
  rintro ⟨a0, a1⟩
  kernel_rfl
theorem callsc72 : CallsL Try.prog 72 Sc72 Fc72 := by
  refine fun_callsL (fn := Try.f72) (c := bodyc72) (ann := annc72) cc72 (by kernel_rfl) (by kernel_rfl) (by kernel_rfl) (by kernel_rfl) (by kernel_rfl) (annOk_of_cuts ?_) eqc72
  intro x hx
  exact absurd hx (by show x ∉ ([] : List (List Nat × LEnt)); simp)

theorem entc72 : EntOk Try.prog 72 (funEntL Sc72 true Fc72) := fun_okL (fn := Try.f72) (c := bodyc72) (by kernel_rfl) (by kernel_rfl) (by kernel_rfl) (by kernel_rfl) callsc72
noncomputable def Ec72 : List (Nat × Ent) := (72, (funEntL Sc72 true Fc72)) :: Ec52
theorem Ec72_ok : EntsOk Try.prog (ofL Ec72) := .cons entc72 Ec52_ok

/-! ### slices.Equal[[]byte,byte] -/
noncomputable def bodyc100 : Code := (Try.f100.body).getD .skip
abbrev Sc100 : FL := ⟨⟨[], [.env 0 (.c (.fz (.int .u8))), .env 1 (.c (.fz (.int .u8)))], []⟩, 2, [(.ret, ⟨[], [.env 0 (.c (.bool))], []⟩)], [.tmp 4], false⟩
noncomputable def cc100 : Ctx Try.prog := ⟨ctab, ofL Ec72, ctabOk, Ec72_ok, cdep, cord⟩
abbrev lc100_0 : Lay := ⟨[], [.env 0 (.c (.fz (.int .u8))), .env 1 (.c (.fz (.int .u8))), .env 12 (.c (.int .i64)), .env 13 (.c (.int .i64))], []⟩
abbrev oc100_0 : List (AExit × Lay) := [(.ret, ⟨[], [.env 4 (.c (.bool))], []⟩), (.exit 0, ⟨[], [], []⟩)]
noncomputable def stepc100_0 : (List Int) × (List Int) × Int × Int → Option (((List Int) × (List Int) × Int × Int) ⊕ ((Bool) ⊕ (Unit)))
  | (t0, t1, t12, t13) =>
  if (decide (t13 < t12)) = true then
   if (0 : Int) ≤ t13 ∧ t13 < (t0.length : Int) then
    if (0 : Int) ≤ t13 ∧ t13 < (t1.length : Int) then
     if ((t0.getD t13.toNat 0) != (t1.getD t13.toNat 0)) = true then
      some (.inr (.inl false))
     else
      some (.inl (t0, t1, t12, (IntKind.i64.wrap (t13 + 1))))
    else none
   else none
  else
   some (.inr (.inr ()))

noncomputable def annc100_0 : Ann := .none
noncomputable def Fc100 : (List Int) × (List Int) → Option ((Bool))
  | (a0, a1) =>
  if ((a0.length : Int) != (a1.length : Int)) = true then
   some false
  else
   (loopO stepc100_0 (a0, a1, (a0.length : Int), 0)).bind fun
    | (.inl z1) =>
     some z1
    | (.inr _) =>
     some true

noncomputable def annc100 : Ann := (.seq .none (.seq .none (.seq (.seq .none (.seq (.cut (cutEnt lc100_0 oc100_0 (loopO (stepc100_0)))) .none)) .none)))
theorem eqc100_0 : ∀ s : lc100_0.T, exec ctab (ofL Ec72) 26 (Code.at' [1, 1, 0, 1, 0, 0] bodyc100) annc100_0 (fun e st => loopEnd (l := lc100_0) (outs := oc100_0) e st) (lc100_0.enc s) = stepc100_0 s := by
  rintro ⟨t0, t1, t12, t13⟩
  kernel_rfl
theorem okc100_0 : LOk Try.prog 26 (cutEnt lc100_0 oc100_0 (loopO stepc100_0)) (Code.at' [1, 1, 0, 1, 0] bodyc100) := by
  have e : Code.at' [1, 1, 0, 1, 0] bodyc100 = .loop (Code.at' [1, 1, 0, 1, 0, 0] bodyc100) := by kernel_rfl
  rw [e]
  refine loop_ok cc100 26 rfl rfl (annOk_of_cuts ?_) eqc100_0
  intro x hx
  exact absurd hx (by show x ∉ ([] : List (List Nat × LEnt)); simp)

theorem eqc100 : ∀ x : Sc100.inT, exec ctab (ofL Ec72) 26 bodyc100 annc100 (finL ctab Sc100) (Sc100.inp.enc x) = Fc100 x := by
  rintro ⟨a0, a1⟩
  kernel_rfl
theorem callsc100 : CallsL Try.prog 100 Sc100 Fc100 := by
  refine fun_callsL (fn := Try.f100) (c := bodyc100) (ann := annc100) cc100 (by kernel_rfl) (by kernel_rfl) (by kernel_rfl) (by kernel_rfl) (by kernel_rfl) (annOk_of_cuts ?_) eqc100
  have hc : Ann.cuts annc100 = [([1, 1, 0, 1, 0], (cutEnt lc100_0 oc100_0 (loopO (stepc100_0))))] := by kernel_rfl
  rw [hc]
  intro x hx
  simp only [List.mem_cons, List.not_mem_nil, or_false] at hx
  rcases hx with rfl
  · have e : Code.at' [1, 1, 0, 1, 0] bodyc100 = Code.at' [1, 1, 0, 1, 0] bodyc100 := by kernel_rfl
    rw [e]; exact okc100_0

theorem entc100 : EntOk Try.prog 100 (funEntL Sc100 true Fc100) := fun_okL (fn := Try.f100) (c := bodyc100) (by kernel_rfl) (by kernel_rfl) (by kernel_rfl) (by kernel_rfl) callsc100
noncomputable def Ec100 : List (Nat × Ent) := (100, (funEntL Sc100 true Fc100)) :: Ec72
theorem Ec100_ok : EntsOk Try.prog (ofL Ec100) := .cons entc100 Ec72_ok

/-! ### barbican/cert.is -/
noncomputable def bodyc73 : Code := (Try.f73.body).getD .skip
abbrev Sc73 : FL := ⟨⟨[], [.env 0 (.dat .item), .env 1 (.dat .item)], []⟩, 2, [(.ret, ⟨[], [], []⟩), (.panic 75 0, ⟨[], [], []⟩)], [], false⟩
noncomputable def cc73 (G : Sc73.inT → Option Sc73.outT) (hG : CallsL Try.prog 73 Sc73 G) : Ctx Try.prog := ⟨ctab, ofL ((73, funEntL Sc73 true G) :: Ec100), ctabOk, .cons (fun_okL (fn := Try.f73) (c := bodyc73) (by kernel_rfl) (by kernel_rfl) (by kernel_rfl) (by kernel_rfl) hG) Ec100_ok, cdep, cord⟩
abbrev lc73_0 : Lay := ⟨[(2, .ptr 2 0 3), (3, .ptr 3 0 3)], [.env 29 (.c (.int .i64)), .env 30 (.c (.int .i64)), .reg 2 (.cells [.int .u8, .fz (.int .u8), .fz .item]), .reg 3 (.cells [.int .u8, .fz (.int .u8), .fz .item])], [(2, .env 2 0), (3, .env 3 0)]⟩
abbrev oc73_0 : List (AExit × Lay) := [(.panic 75 0, ⟨[], [], []⟩), (.exit 0, ⟨[], [], []⟩)]
noncomputable def stepc73_0 (G : Tree × Tree → Option ((Unit) ⊕ (Int × (Unit)))) : Int × Int × (Int × (List Int) × (List Tree)) × (Int × (List Int) × (List Tree)) → Option ((Int × Int × (Int × (List Int) × (List Tree)) × (Int × (List Int) × (List Tree))) ⊕ ((Int × (Unit)) ⊕ (Unit)))
  | (t29, t30, r2, r3) =>
  if (decide (t30 < t29)) = true then
   if (0 : Int) ≤ t30 ∧ t30 < (r2.2.2.length : Int) then
    if (0 : Int) ≤ t30 ∧ t30 < (r3.2.2.length : Int) then
     (G ((Tree.node (r2.2.2.getD t30.toNat (DT.dflt .item)).tag (r2.2.2.getD t30.toNat (DT.dflt .item)).body (r2.2.2.getD t30.toNat (DT.dflt .item)).kids), (Tree.node (r3.2.2.getD t30.toNat (DT.dflt .item)).tag (r3.2.2.getD t30.toNat (DT.dflt .item)).body (r3.2.2.getD t30.toNat (DT.dflt .item)).kids))).bind fun
      | (.inl _) =>
       some (.inl (t29, (IntKind.i64.wrap (t30 + 1)), (r2.1, r2.2.1, r2.2.2), (r3.1, r3.2.1, r3.2.2)))
      | (.inr (e3, _)) =>
       some (.inr (.inl (e3, ())))
    else none
   else none
  else
   some (.inr (.inr ()))

noncomputable def annc73_0 (G : Tree × Tree → Option ((Unit) ⊕ (Int × (Unit)))) : Ann := .none
noncomputable def Bc73 (G : Tree × Tree → Option ((Unit) ⊕ (Int × (Unit)))) : Tree × Tree → Option ((Unit) ⊕ (Int × (Unit)))
  | (a0, a1) =>
  if (a0.tag == a1.tag) = true then
   (Fc100 (a0.body, a1.body)).bind fun y1 =>
    if y1 = true then
     (Fc71 ((a0.kids.length : Int) == (a1.kids.length : Int))).bind fun
      | (.inl (e2, _)) =>
       some (.inr (e2, ()))
      | (.inr _) =>
       (loopO (stepc73_0 G) ((a0.kids.length : Int), 0, (a0.tag, a0.body, a0.kids), (a1.tag, a1.body, a1.kids))).bind fun
        | (.inl (e4, _)) =>
         some (.inr (e4, ()))
        | (.inr _) =>
         some (.inl ())
    else
     (Fc71 false).bind fun
      | (.inl (e5, _)) =>
       some (.inr (e5, ()))
      | (.inr _) =>
       (loopO (stepc73_0 G) ((a0.kids.length : Int), 0, (a0.tag, a0.body, a0.kids), (a1.tag, a1.body, a1.kids))).bind fun
        | (.inl (e6, _)) =>
         some (.inr (e6, ()))
        | (.inr _) =>
         some (.inl ())
  else
   (Fc71 false).bind fun
    | (.inl (e7, _)) =>
     some (.inr (e7, ()))
    | (.inr _) =>
     (loopO (stepc73_0 G) ((a0.kids.length : Int), 0, (a0.tag, a0.body, a0.kids), (a1.tag, a1.body, a1.kids))).bind fun
      | (.inl (e8, _)) =>
       some (.inr (e8, ()))
      | (.inr _) =>
       some (.inl ())

noncomputable def annc73 (G : Tree × Tree → Option ((Unit) ⊕ (Int × (Unit)))) : Ann := (.seq .none (.seq .none (.seq .none (.seq (.cut (cutEnt lc73_0 oc73_0 (loopO (stepc73_0 G)))) .none))))
theorem eqc73_0 (G : Sc73.inT → Option Sc73.outT) (hG : CallsL Try.prog 73 Sc73 G) : ∀ s : lc73_0.T, exec ctab (ofL ((73, funEntL Sc73 true G) :: Ec100)) 45 (Code.at' [1, 1, 1, 0, 0] bodyc73) (annc73_0 G) (fun e st => loopEnd (l := lc73_0) (outs := oc73_0) e st) (lc73_0.enc s) = stepc73_0 G s := by
  rintro ⟨t29, t30, r2, r3⟩
  kernel_rfl
theorem okc73_0 (G : Sc73.inT → Option Sc73.outT) (hG : CallsL Try.prog 73 Sc73 G) : LOk Try.prog 45 (cutEnt lc73_0 oc73_0 (loopO (stepc73_0 G))) (Code.at' [1, 1, 1, 0] bodyc73) := by
  have e : Code.at' [1, 1, 1, 0] bodyc73 = .loop (Code.at' [1, 1, 1, 0, 0] bodyc73) := by kernel_rfl
  rw [e]
  refine loop_ok (cc73 G hG) 45 rfl rfl (annOk_of_cuts ?_) (eqc73_0 G hG)
  intro x hx
  exact absurd hx (by show x ∉ ([] : List (List Nat × LEnt)); simp)

theorem eqc73 (G : Sc73.inT → Option Sc73.outT) (hG : CallsL Try.prog 73 Sc73 G) : ∀ x : Sc73.inT, exec ctab (ofL ((73, funEntL Sc73 true G) :: Ec100)) 45 bodyc73 (annc73 G) (finL ctab Sc73) (Sc73.inp.enc x) = Bc73 G x := by
  rintro ⟨a0, a1⟩
  kernel_rfl
theorem bcallsc73 (G : Sc73.inT → Option Sc73.outT) (hG : CallsL Try.prog 73 Sc73 G) : CallsL Try.prog 73 Sc73 (Bc73 G) := by
  refine fun_callsL (fn := Try.f73) (c := bodyc73) (ann := (annc73 G)) (cc73 G hG) (by kernel_rfl) (by kernel_rfl) (by kernel_rfl) (by kernel_rfl) (by kernel_rfl) (annOk_of_cuts ?_) (eqc73 G hG)
  have hc : Ann.cuts (annc73 G) = [([1, 1, 1, 0], (cutEnt lc73_0 oc73_0 (loopO (stepc73_0 G))))] := by kernel_rfl
  rw [hc]
  intro x hx
  simp only [List.mem_cons, List.not_mem_nil, or_false] at hx
  rcases hx with rfl
  · have e : Code.at' [1, 1, 1, 0] bodyc73 = Code.at' [1, 1, 1, 0] bodyc73 := by kernel_rfl
    rw [e]; exact okc73_0 G hG

noncomputable def FRc73 : Nat → Tree × Tree → Option ((Unit) ⊕ (Int × (Unit)))
  | 0 => fun _ => none
  | k + 1 => Bc73 (FRc73 k)
theorem rcallsc73 : ∀ k, CallsL Try.prog 73 Sc73 (FRc73 k)
  | 0 => fun _ _ _ _ _ _ _ _ h => by cases h
  | k + 1 => bcallsc73 (FRc73 k) (rcallsc73 k)
noncomputable def Fc73 (x : Tree × Tree) : Option ((Unit) ⊕ (Int × (Unit))) := FRc73 (Tree.rank x.1 + 1) x
theorem callsc73 : CallsL Try.prog 73 Sc73 Fc73 := fun us x y w fp β h1 h2 h3 h4 => rcallsc73 _ us x y w fp β h1 h2 h3 h4
theorem entc73 : EntOk Try.prog 73 (funEntL Sc73 true Fc73) := fun_okL (fn := Try.f73) (c := bodyc73) (by kernel_rfl) (by kernel_rfl) (by kernel_rfl) (by kernel_rfl) callsc73
noncomputable def Ec73 : List (Nat × Ent) := (73, (funEntL Sc73 true Fc73)) :: Ec100
theorem Ec73_ok : EntsOk Try.prog (ofL Ec73) := .cons entc73 Ec100_ok

/-! ### barbican/cert.nameOf -/
noncomputable def bodyc74 : Code := (Try.f74.body).getD .skip
abbrev Sc74 : FL := ⟨⟨[], [.env 0 (.dat .item)], []⟩, 1, [(.panic 75 0, ⟨[], [], []⟩), (.ret, ⟨[], [.env 0 (.c (.str))], []⟩)], [.tmp 2], false⟩
noncomputable def cc74 : Ctx Try.prog := ⟨ctab, ofL Ec73, ctabOk, Ec73_ok, cdep, cord⟩
noncomputable def Fc74 : Tree → Option ((Int × (Unit)) ⊕ (ByteArray))
  | a0 =>
  (Fc70 ((Tree.node a0.tag a0.body a0.kids), 48, 1)).bind fun
   | (.inl (e1, _)) =>
    some (.inl (e1, ()))
   | (.inr y2) =>
    if (0 : Int) ≤ (0 : Int) ∧ (0 : Int) < (y2.length : Int) then
     (Fc70 ((Tree.node (y2.getD 0 (DT.dflt .item)).tag (y2.getD 0 (DT.dflt .item)).body (y2.getD 0 (DT.dflt .item)).kids), 49, 1)).bind fun
      | (.inl (e3, _)) =>
       some (.inl (e3, ()))
      | (.inr y4) =>
       if (0 : Int) ≤ (0 : Int) ∧ (0 : Int) < (y4.length : Int) then
        (Fc70 ((Tree.node (y4.getD 0 (DT.dflt .item)).tag (y4.getD 0 (DT.dflt .item)).body (y4.getD 0 (DT.dflt .item)).kids), 48, 2)).bind fun
         | (.inl (e5, _)) =>
          some (.inl (e5, ()))
         | (.inr y6) =>
          if (0 : Int) ≤ (0 : Int) ∧ (0 : Int) < (y6.length : Int) then
           let f7 : List Int := (((((List.replicate 4 (0 : Int)).set 0 2).set 1 5).set 2 4).set 3 3)
           (Fc85 f7).bind fun y8 =>
            (Fc73 ((Tree.node (y6.getD 0 (DT.dflt .item)).tag (y6.getD 0 (DT.dflt .item)).body (y6.getD 0 (DT.dflt .item)).kids), (Tree.node y8.tag y8.body y8.kids))).bind fun
             | (.inl _) =>
              if (0 : Int) ≤ (1 : Int) ∧ (1 : Int) < (y6.length : Int) then
               (Fc71 ((y6.getD 1 (DT.dflt .item)).tag == 12)).bind fun
                | (.inl (e9, _)) =>
                 some (.inl (e9, ()))
                | (.inr _) =>
                 if (0 : Int) ≤ (1 : Int) ∧ (1 : Int) < (y6.length : Int) then
                  some (.inr (ofBytes (y6.getD 1 (DT.dflt .item)).body))
                 else none
              else none
             | (.inr (e10, _)) =>
              some (.inl (e10, ()))
          else none
       else none
    else none

noncomputable def annc74 : Ann := .none
theorem eqc74 : ∀ x : Sc74.inT, exec ctab (ofL Ec73) 29 bodyc74 annc74 (finL ctab Sc74) (Sc74.inp.enc x) = Fc74 x := by
  intro x
  kernel_rfl
theorem callsc74 : CallsL Try.prog 74 Sc74 Fc74 := by
  refine fun_callsL (fn := Try.f74) (c := bodyc74) (ann := annc74) cc74 (by kernel_rfl) (by kernel_rfl) (by kernel_rfl) (by kernel_rfl) (by kernel_rfl) (annOk_of_cuts ?_) eqc74
  intro x hx
  exact absurd hx (by show x ∉ ([] : List (List Nat × LEnt)); simp)

theorem entc74 : EntOk Try.prog 74 (funEntL Sc74 true Fc74) := fun_okL (fn := Try.f74) (c := bodyc74) (by kernel_rfl) (by kernel_rfl) (by kernel_rfl) (by kernel_rfl) callsc74
noncomputable def Ec74 : List (Nat × Ent) := (74, (funEntL Sc74 true Fc74)) :: Ec73
theorem Ec74_ok : EntsOk Try.prog (ofL Ec74) := .cons entc74 Ec73_ok

/-! ### barbican/der.Bits -/
noncomputable def bodyc53 : Code := (Try.f53.body).getD .skip
abbrev Sc53 : FL := ⟨⟨[], [.env 0 (.dat .item)], []⟩, 1, [(.ret, ⟨[(0, .full 3)], [.reg 3 (.row 5 .u8), .env 1 (.c (.int .i64))], [(3, .env 0 0)]⟩)], [.tmp 2, .tmp 3], false⟩
noncomputable def cc53 : Ctx Try.prog := ⟨ctab, ofL Ec74, ctabOk, Ec74_ok, cdep, cord⟩
noncomputable def Fc53 : Tree → Option ((List Int × Int))
  | a0 =>
  (Fc88 ((Tree.node a0.tag a0.body a0.kids), 3)).bind fun y1 =>
   if (y1 != 0) = true then
    some (([] : List Int), y1)
   else
    if (0 : Int) ≤ (0 : Int) ∧ (0 : Int) < (a0.body.length : Int) then
     if ((a0.body.getD 0 0) != 0) = true then
      some (([] : List Int), 127)
     else
      if (0 : Int) ≤ (1 : Int) ∧ (1 : Int) ≤ (a0.body.length : Int) then
       (Fc50 (a0.body.drop 1)).bind fun y2 =>
        some (y2, 0)
      else none
    else none

noncomputable def annc53 : Ann := .none
theorem eqc53 : ∀ x : Sc53.inT, exec ctab (ofL Ec74) 18 bodyc53 annc53 (finL ctab Sc53) (Sc53.inp.enc x) = Fc53 x := by
  intro x
  kernel_rfl
theorem callsc53 : CallsL Try.prog 53 Sc53 Fc53 := by
  refine fun_callsL (fn := Try.f53) (c := bodyc53) (ann := annc53) cc53 (by kernel_rfl) (by kernel_rfl) (by kernel_rfl) (by kernel_rfl) (by kernel_rfl) (annOk_of_cuts ?_) eqc53
  intro x hx
  exact absurd hx (by show x ∉ ([] : List (List Nat × LEnt)); simp)

theorem entc53 : EntOk Try.prog 53 (funEntL Sc53 true Fc53) := fun_okL (fn := Try.f53) (c := bodyc53) (by kernel_rfl) (by kernel_rfl) (by kernel_rfl) (by kernel_rfl) callsc53
noncomputable def Ec53 : List (Nat × Ent) := (53, (funEntL Sc53 true Fc53)) :: Ec74
theorem Ec53_ok : EntsOk Try.prog (ofL Ec53) := .cons entc53 Ec74_ok

end Go.Abs
