import Derived.Test.YtancmhkdbckfeaaAbsExt
import Derived.Test.YtancmhkdbckfeaaChecked
import Derived.KernelRfl
set_option linter.unusedVariables false
set_option maxRecDepth 100000
namespace Go.Abs
def rtab : Tab := [
  (2, ⟨.int .i64, 1, 8, [.int .i64 0]⟩),
  (3, ⟨.int .i64, 1, 8, [.int .i64 0]⟩),
  (4, ⟨.bool, 1, 1, [.bool false]⟩),
  (5, ⟨.int .u8, 1, 1, [.int .u8 0]⟩),
  (9, ⟨.str, 1, 16, [.str ByteArray.empty]⟩),
  (21, ⟨.int .i32, 1, 4, [.int .i32 0]⟩),
  (23, ⟨.array 256 21, 256, 1024, [.ints .i32 256 (fun _ => 0)]⟩),
  (50, ⟨.ptr, 1, 8, [.val (.pointer none)]⟩),
  (57, ⟨.array 256 2, 256, 2048, [.ints .i64 256 (fun _ => 0)]⟩),
  (58, ⟨.slice 50, 1, 24, [.val (.slice none 0 0)]⟩)]
theorem rtabOk : TabOk Go.Proofs.Try.prog rtab := tabChk_ok (by kernel_rfl)
theorem rdep : 4 ≤ (Go.Proofs.Try.prog).depth := by
  have : Nat.ble 4 ((Go.Proofs.Try.prog).depth) = true := by kernel_rfl
  exact Nat.le_of_ble_eq_true this
theorem rord : (Go.Proofs.Try.prog).follows .mixedOrders = true := by kernel_rfl
def rstr0 : ByteArray := ⟨#[0, 128, 64, 192, 32, 160, 96, 224, 16, 144, 80, 208, 48, 176, 112, 240, 8, 136, 72, 200, 40, 168, 104, 232, 24, 152, 88, 216, 56, 184, 120, 248, 4, 132, 68, 196, 36, 164, 100, 228, 20, 148, 84, 212, 52, 180, 116, 244, 12, 140, 76, 204, 44, 172, 108, 236, 28, 156, 92, 220, 60, 188, 124, 252, 2, 130, 66, 194, 34, 162, 98, 226, 18, 146, 82, 210, 50, 178, 114, 242, 10, 138, 74, 202, 42, 170, 106, 234, 26, 154, 90, 218, 58, 186, 122, 250, 6, 134, 70, 198, 38, 166, 102, 230, 22, 150, 86, 214, 54, 182, 118, 246, 14, 142, 78, 206, 46, 174, 110, 238, 30, 158, 94, 222, 62, 190, 126, 254, 1, 129, 65, 193, 33, 161, 97, 225, 17, 145, 81, 209, 49, 177, 113, 241, 9, 137, 73, 201, 41, 169, 105, 233, 25, 153, 89, 217, 57, 185, 121, 249, 5, 133, 69, 197, 37, 165, 101, 229, 21, 149, 85, 213, 53, 181, 117, 245, 13, 141, 77, 205, 45, 173, 109, 237, 29, 157, 93, 221, 61, 189, 125, 253, 3, 131, 67, 195, 35, 163, 99, 227, 19, 147, 83, 211, 51, 179, 115, 243, 11, 139, 75, 203, 43, 171, 107, 235, 27, 155, 91, 219, 59, 187, 123, 251, 7, 135, 71, 199, 39, 167, 103, 231, 23, 151, 87, 215, 55, 183, 119, 247, 15, 143, 79, 207, 47, 175, 111, 239, 31, 159, 95, 223, 63, 191, 127, 255]⟩
noncomputable def rE0 : List (Nat × Ent) := []
theorem rE0_ok : EntsOk Go.Proofs.Try.prog (ofL rE0) := .nil _

/-! ### barbican/ring.plain -/
noncomputable def bodyr32 : Code := (Go.Proofs.Try.f32.body).getD .skip
abbrev lr32_1 : Lay := ⟨[], [.env 7 (.c (.fz (.pt (.arr .i32 256)))), .env 8 (.c (.int .i64)), .env 9 (.c (.int .i64)), .env 13 (.c (.fzp (.arr .i32 256))), .env 14 (.c (.int .i64))], []⟩
abbrev or32_1 : List (AExit × Lay) := [(.ret, ⟨[], [.env 2 (.c (.bool))], []⟩), (.exit 2, ⟨[], [.env 7 (.c (.fz (.pt (.arr .i32 256)))), .env 8 (.c (.int .i64)), .env 9 (.c (.int .i64))], []⟩)]
noncomputable def stepr32_1 : (List (Nat → Int)) × Int × Int × (Nat → Int) × Int → Option (((List (Nat → Int)) × Int × Int × (Nat → Int) × Int) ⊕ ((Bool) ⊕ ((List (Nat → Int)) × Int × Int)))
  | (t7, t8, t9, t13, t14) =>
    if (decide (t14 < 256)) = true then
      if (0 : Int) ≤ t14 ∧ t14 < ((256 : Int) : Int) then
        if (decide ((t13 t14.toNat) < 0)) = false then
          if (decide ((t13 t14.toNat) ≥ 8380417)) = true then
            some (.inr (.inl false))
          else
            some (.inl (t7, t8, t9, t13, (IntKind.i64.wrap (t14 + 1))))
        else
          some (.inr (.inl false))
      else none
    else
      some (.inr (.inr (t7, t8, t9)))

noncomputable def annr32_1 : Ann := .none
abbrev lr32_0 : Lay := ⟨[], [.env 7 (.c (.fz (.pt (.arr .i32 256)))), .env 8 (.c (.int .i64)), .env 9 (.c (.int .i64))], []⟩
abbrev or32_0 : List (AExit × Lay) := [(.ret, ⟨[], [.env 2 (.c (.bool))], []⟩), (.exit 0, ⟨[], [], []⟩)]
noncomputable def stepr32_0 : (List (Nat → Int)) × Int × Int → Option (((List (Nat → Int)) × Int × Int) ⊕ ((Bool) ⊕ (Unit)))
  | (t7, t8, t9) =>
    if (decide (t9 < t8)) = true then
      if (0 : Int) ≤ t9 ∧ t9 < (t7.length : Int) then
        (loopO stepr32_1 (t7, t8, t9, (t7.getD t9.toNat (DT.dflt (.pt (.arr .i32 256)))), 0)).bind fun
          | (.inl z2) =>
            some (.inr (.inl z2))
          | (.inr (z3, z4, z5)) =>
            some (.inl (z3, z4, (IntKind.i64.wrap (z5 + 1))))
      else none
    else
      some (.inr (.inr ()))

noncomputable def annr32_0 : Ann := (.seq .none (.seq .none (.seq (.seq (.seq .none (.seq .none (.seq (.cut (cutEnt lr32_1 or32_1 (loopO stepr32_1))) .none))) .none) .none)))
noncomputable def Fr32 : List (Nat → Int) → Option (Bool)
  | a0 =>
    (loopO stepr32_0 (a0, (a0.length : Int), 0)).bind fun
      | (.inl z7) =>
        some z7
      | (.inr _) =>
        some true

noncomputable def annr32 : Ann := (.seq .none (.seq (.seq .none (.seq (.cut (cutEnt lr32_0 or32_0 (loopO stepr32_0))) .none)) .none))
abbrev Sr32 : FSh := ⟨[.ptrs .i32 256], [.val (.c (.bool))], [.tmp 2]⟩
noncomputable def cr32 : Ctx Go.Proofs.Try.prog := ⟨rtab, ofL rE0, rtabOk, rE0_ok, rdep, rord⟩
theorem eqr32_1 : ∀ s : lr32_1.T, exec rtab (ofL rE0) 27 (Code.at' [1, 0, 1, 0, 0, 1, 1, 0, 0, 1, 1, 0, 0] bodyr32) annr32_1 (fun e st => loopEnd (l := lr32_1) (outs := or32_1) e st) (lr32_1.enc s) = stepr32_1 s := by
  rintro ⟨t7, t8, t9, t13, t14⟩
  kernel_rfl
theorem okr32_1 : LOk Go.Proofs.Try.prog 27 (cutEnt lr32_1 or32_1 (loopO stepr32_1)) (Code.at' [1, 0, 1, 0, 0, 1, 1, 0, 0, 1, 1, 0] bodyr32) := by
  have e : Code.at' [1, 0, 1, 0, 0, 1, 1, 0, 0, 1, 1, 0] bodyr32 = .loop (Code.at' [1, 0, 1, 0, 0, 1, 1, 0, 0, 1, 1, 0, 0] bodyr32) := by kernel_rfl
  rw [e]
  refine loop_ok cr32 27 rfl rfl (annOk_of_cuts ?_) eqr32_1
  intro x hx
  exact absurd hx (by show x ∉ ([] : List (List Nat × LEnt)); simp)

theorem eqr32_0 : ∀ s : lr32_0.T, exec rtab (ofL rE0) 27 (Code.at' [1, 0, 1, 0, 0] bodyr32) annr32_0 (fun e st => loopEnd (l := lr32_0) (outs := or32_0) e st) (lr32_0.enc s) = stepr32_0 s := by
  rintro ⟨t7, t8, t9⟩
  kernel_rfl
theorem okr32_0 : LOk Go.Proofs.Try.prog 27 (cutEnt lr32_0 or32_0 (loopO stepr32_0)) (Code.at' [1, 0, 1, 0] bodyr32) := by
  have e : Code.at' [1, 0, 1, 0] bodyr32 = .loop (Code.at' [1, 0, 1, 0, 0] bodyr32) := by kernel_rfl
  rw [e]
  refine loop_ok cr32 27 rfl rfl (annOk_of_cuts ?_) eqr32_0
  have hc : Ann.cuts annr32_0 = [([1, 1, 0, 0, 1, 1, 0], (cutEnt lr32_1 or32_1 (loopO stepr32_1)))] := by kernel_rfl
  rw [hc]
  intro x hx
  simp only [List.mem_cons, List.not_mem_nil, or_false] at hx
  rcases hx with rfl
  · have e : Code.at' [1, 1, 0, 0, 1, 1, 0] (Code.at' [1, 0, 1, 0, 0] bodyr32) = Code.at' [1, 0, 1, 0, 0, 1, 1, 0, 0, 1, 1, 0] bodyr32 := by kernel_rfl
    rw [e]; exact okr32_1

theorem eqr32 : ∀ x : psT Sr32.ps, exec rtab (ofL rE0) 27 bodyr32 annr32 (fin rtab Sr32) (argSt Sr32 x) = Fr32 x := by
  intro x
  kernel_rfl
theorem callsr32 : CallsAs Go.Proofs.Try.prog cr32 32 Sr32 Fr32 := by
  refine fun_calls (fn := Go.Proofs.Try.f32) (c := bodyr32) (ann := annr32) cr32 (by kernel_rfl) (by kernel_rfl) (by kernel_rfl) (by decide) (annOk_of_cuts ?_) eqr32
  have hc : Ann.cuts annr32 = [([1, 0, 1, 0], (cutEnt lr32_0 or32_0 (loopO stepr32_0)))] := by kernel_rfl
  rw [hc]
  intro x hx
  simp only [List.mem_cons, List.not_mem_nil, or_false] at hx
  rcases hx with rfl
  · have e : Code.at' [1, 0, 1, 0] bodyr32 = Code.at' [1, 0, 1, 0] bodyr32 := by kernel_rfl
    rw [e]; exact okr32_0

theorem entr32 : EntOk Go.Proofs.Try.prog 32 (funEnt Sr32 Fr32) := fun_ok cr32 (fn := Go.Proofs.Try.f32) (c := bodyr32) (by kernel_rfl) (by kernel_rfl) (by kernel_rfl) rfl rfl (by decide) callsr32
noncomputable def Er32 : List (Nat × Ent) := (32, funEnt Sr32 Fr32) :: rE0
theorem Er32_ok : EntsOk Go.Proofs.Try.prog (ofL Er32) := .cons entr32 rE0_ok

/-! ### math/bits.Reverse8 -/
noncomputable def bodyr41 : Code := (Go.Proofs.Try.f41.body).getD .skip
noncomputable def Fr41 : Int → Option (Int)
  | a0 =>
    if 0 ≤ a0 ∧ a0 < (rstr0.size : Int) then
      some (strAt rstr0 a0)
    else none

noncomputable def annr41 : Ann := .none
abbrev Sr41 : FSh := ⟨[.val (.c (.int .u8))], [.val (.c (.int .u8))], [.tmp 2]⟩
noncomputable def cr41 : Ctx Go.Proofs.Try.prog := ⟨rtab, ofL Er32, rtabOk, Er32_ok, rdep, rord⟩
theorem eqr41 : ∀ x : psT Sr41.ps, exec rtab (ofL Er32) 5 bodyr41 annr41 (fin rtab Sr41) (argSt Sr41 x) = Fr41 x := by
  intro x
  kernel_rfl
theorem callsr41 : CallsAs Go.Proofs.Try.prog cr41 41 Sr41 Fr41 := by
  refine fun_calls (fn := Go.Proofs.Try.f41) (c := bodyr41) (ann := annr41) cr41 (by kernel_rfl) (by kernel_rfl) (by kernel_rfl) (by decide) (annOk_of_cuts ?_) eqr41
  intro x hx
  exact absurd hx (by show x ∉ ([] : List (List Nat × LEnt)); simp)

theorem entr41 : EntOk Go.Proofs.Try.prog 41 (funEnt Sr41 Fr41) := fun_ok cr41 (fn := Go.Proofs.Try.f41) (c := bodyr41) (by kernel_rfl) (by kernel_rfl) (by kernel_rfl) rfl rfl (by decide) callsr41
noncomputable def Er41 : List (Nat × Ent) := (41, funEnt Sr41 Fr41) :: Er32
theorem Er41_ok : EntsOk Go.Proofs.Try.prog (ofL Er41) := .cons entr41 Er32_ok

/-! ### barbican/ring.mod -/
noncomputable def bodyr35 : Code := (Go.Proofs.Try.f35.body).getD .skip
noncomputable def Fr35 : Int → Option (Int)
  | a0 =>
    if (decide ((a0.tmod 8380417) < 0)) = true then
      let x1 : Int := (IntKind.i32.wrap (IntKind.i64.wrap ((a0.tmod 8380417) + 8380417)))
      some x1
    else
      some (IntKind.i32.wrap (a0.tmod 8380417))

noncomputable def annr35 : Ann := .none
abbrev Sr35 : FSh := ⟨[.val (.c (.int .i64))], [.val (.c (.int .i32))], [.tmp 2]⟩
noncomputable def cr35 : Ctx Go.Proofs.Try.prog := ⟨rtab, ofL Er41, rtabOk, Er41_ok, rdep, rord⟩
theorem eqr35 : ∀ x : psT Sr35.ps, exec rtab (ofL Er41) 11 bodyr35 annr35 (fin rtab Sr35) (argSt Sr35 x) = Fr35 x := by
  intro x
  kernel_rfl
theorem callsr35 : CallsAs Go.Proofs.Try.prog cr35 35 Sr35 Fr35 := by
  refine fun_calls (fn := Go.Proofs.Try.f35) (c := bodyr35) (ann := annr35) cr35 (by kernel_rfl) (by kernel_rfl) (by kernel_rfl) (by decide) (annOk_of_cuts ?_) eqr35
  intro x hx
  exact absurd hx (by show x ∉ ([] : List (List Nat × LEnt)); simp)

theorem entr35 : EntOk Go.Proofs.Try.prog 35 (funEnt Sr35 Fr35) := fun_ok cr35 (fn := Go.Proofs.Try.f35) (c := bodyr35) (by kernel_rfl) (by kernel_rfl) (by kernel_rfl) rfl rfl (by decide) callsr35
noncomputable def Er35 : List (Nat × Ent) := (35, funEnt Sr35 Fr35) :: Er41
theorem Er35_ok : EntsOk Go.Proofs.Try.prog (ofL Er35) := .cons entr35 Er41_ok

/-! ### barbican/ring.times -/
noncomputable def bodyr34 : Code := (Go.Proofs.Try.f34.body).getD .skip
noncomputable def Fr34 : Int × Int → Option (Int)
  | (a0, a1) =>
    let x1 : Int := (IntKind.i64.wrap ((IntKind.i64.wrap a0) * (IntKind.i64.wrap a1)))
    (Fr35 x1).bind fun y2 =>
      some y2

noncomputable def annr34 : Ann := .none
abbrev Sr34 : FSh := ⟨[.val (.c (.int .i32)), .val (.c (.int .i32))], [.val (.c (.int .i32))], [.tmp 4]⟩
noncomputable def cr34 : Ctx Go.Proofs.Try.prog := ⟨rtab, ofL Er35, rtabOk, Er35_ok, rdep, rord⟩
theorem eqr34 : ∀ x : psT Sr34.ps, exec rtab (ofL Er35) 11 bodyr34 annr34 (fin rtab Sr34) (argSt Sr34 x) = Fr34 x := by
  rintro ⟨a0, a1⟩
  kernel_rfl
theorem callsr34 : CallsAs Go.Proofs.Try.prog cr34 34 Sr34 Fr34 := by
  refine fun_calls (fn := Go.Proofs.Try.f34) (c := bodyr34) (ann := annr34) cr34 (by kernel_rfl) (by kernel_rfl) (by kernel_rfl) (by decide) (annOk_of_cuts ?_) eqr34
  intro x hx
  exact absurd hx (by show x ∉ ([] : List (List Nat × LEnt)); simp)

theorem entr34 : EntOk Go.Proofs.Try.prog 34 (funEnt Sr34 Fr34) := fun_ok cr34 (fn := Go.Proofs.Try.f34) (c := bodyr34) (by kernel_rfl) (by kernel_rfl) (by kernel_rfl) rfl rfl (by decide) callsr34
noncomputable def Er34 : List (Nat × Ent) := (34, funEnt Sr34 Fr34) :: Er35
theorem Er34_ok : EntsOk Go.Proofs.Try.prog (ofL Er34) := .cons entr34 Er35_ok

/-! ### barbican/ring.powers -/
noncomputable def bodyr33 : Code := (Go.Proofs.Try.f33.body).getD .skip
abbrev lr33_0 : Lay := ⟨[(0, .ptr 0 0 256), (1, .ptr 1 0 256)], [.env 2 (.c (.int .i32)), .env 4 (.c (.int .i64)), .reg 0 (.cells [.ints .i32 256]), .reg 1 (.cells [.ints .i32 256])], [(0, 0), (1, 1)]⟩
abbrev or33_0 : List (AExit × Lay) := [(.exit 0, ⟨[(0, .ptr 0 0 256), (1, .ptr 1 0 256)], [.reg 0 (.cells [.ints .i32 256]), .reg 1 (.cells [.ints .i32 256])], [(0, 0), (1, 1)]⟩)]
noncomputable def stepr33_0 : Int × Int × (Nat → Int) × (Nat → Int) → Option ((Int × Int × (Nat → Int) × (Nat → Int)) ⊕ (((Nat → Int) × (Nat → Int))))
  | (t2, t4, r0, r1) =>
    if (decide (t4 < 256)) = true then
      (Fr41 (IntKind.u8.wrap t4)).bind fun y1 =>
        if (0 : Int) ≤ y1 ∧ y1 < ((256 : Int) : Int) then
          (Fr34 (t2, 1753)).bind fun y2 =>
            some (.inl (y2, (IntKind.i64.wrap (t4 + 1)), r0, (upd r1 y1.toNat t2)))
        else none
    else
      some (.inr (r0, r1))

noncomputable def annr33_0 : Ann := .none
noncomputable def Fr33 : Unit → Option ((Nat → Int))
  | _ =>
    (loopO stepr33_0 (1, 0, (fun _ => 0), (fun _ => 0))).bind fun (z3, z4) =>
      some z4

noncomputable def annr33 : Ann := (.seq .none (.seq .none (.seq .none (.seq (.seq .none (.seq (.cut (cutEnt lr33_0 or33_0 (loopO stepr33_0))) .none)) .none))))
abbrev Sr33 : FSh := ⟨[], [.val (.agg [.ints .i32 256])], [.cell 0 23]⟩
noncomputable def cr33 : Ctx Go.Proofs.Try.prog := ⟨rtab, ofL Er34, rtabOk, Er34_ok, rdep, rord⟩
theorem eqr33_0 : ∀ s : lr33_0.T, exec rtab (ofL Er34) 16 (Code.at' [1, 1, 1, 0, 1, 0, 0] bodyr33) annr33_0 (fun e st => loopEnd (l := lr33_0) (outs := or33_0) e st) (lr33_0.enc s) = stepr33_0 s := by
  rintro ⟨t2, t4, r0, r1⟩
  kernel_rfl
theorem okr33_0 : LOk Go.Proofs.Try.prog 16 (cutEnt lr33_0 or33_0 (loopO stepr33_0)) (Code.at' [1, 1, 1, 0, 1, 0] bodyr33) := by
  have e : Code.at' [1, 1, 1, 0, 1, 0] bodyr33 = .loop (Code.at' [1, 1, 1, 0, 1, 0, 0] bodyr33) := by kernel_rfl
  rw [e]
  refine loop_ok cr33 16 rfl rfl (annOk_of_cuts ?_) eqr33_0
  intro x hx
  exact absurd hx (by show x ∉ ([] : List (List Nat × LEnt)); simp)

theorem eqr33 : ∀ x : psT Sr33.ps, exec rtab (ofL Er34) 16 bodyr33 annr33 (fin rtab Sr33) (argSt Sr33 x) = Fr33 x := by
  intro x
  kernel_rfl
theorem callsr33 : CallsAs Go.Proofs.Try.prog cr33 33 Sr33 Fr33 := by
  refine fun_calls (fn := Go.Proofs.Try.f33) (c := bodyr33) (ann := annr33) cr33 (by kernel_rfl) (by kernel_rfl) (by kernel_rfl) (by decide) (annOk_of_cuts ?_) eqr33
  have hc : Ann.cuts annr33 = [([1, 1, 1, 0, 1, 0], (cutEnt lr33_0 or33_0 (loopO stepr33_0)))] := by kernel_rfl
  rw [hc]
  intro x hx
  simp only [List.mem_cons, List.not_mem_nil, or_false] at hx
  rcases hx with rfl
  · have e : Code.at' [1, 1, 1, 0, 1, 0] bodyr33 = Code.at' [1, 1, 1, 0, 1, 0] bodyr33 := by kernel_rfl
    rw [e]; exact okr33_0

theorem entr33 : EntOk Go.Proofs.Try.prog 33 (funEnt Sr33 Fr33) := fun_ok cr33 (fn := Go.Proofs.Try.f33) (c := bodyr33) (by kernel_rfl) (by kernel_rfl) (by kernel_rfl) rfl rfl (by decide) callsr33
noncomputable def Er33 : List (Nat × Ent) := (33, funEnt Sr33 Fr33) :: Er34
theorem Er33_ok : EntsOk Go.Proofs.Try.prog (ofL Er33) := .cons entr33 Er34_ok

/-! ### barbican/ring.NTT -/
noncomputable def bodyr9 : Code := (Go.Proofs.Try.f9.body).getD .skip
abbrev lr9_2 : Lay := ⟨[(1, .ptr 1 0 256), (2, .ptr 2 0 256), (4, .ptr 4 0 256)], [.env 5 (.c (.int .i64)), .env 6 (.c (.int .i64)), .env 7 (.c (.int .i64)), .env 8 (.c (.int .i64)), .reg 1 (.cells [.ints .i32 256]), .reg 2 (.cells [.ints .i32 256]), .reg 4 (.cells [.ints .i32 256])], [(1, 1), (2, 2), (4, 4)]⟩
abbrev or9_2 : List (AExit × Lay) := [(.exit 4, ⟨[(1, .ptr 1 0 256), (2, .ptr 2 0 256), (4, .ptr 4 0 256)], [.env 5 (.c (.int .i64)), .env 6 (.c (.int .i64)), .env 7 (.c (.int .i64)), .reg 1 (.cells [.ints .i32 256]), .reg 2 (.cells [.ints .i32 256]), .reg 4 (.cells [.ints .i32 256])], [(1, 1), (2, 2), (4, 4)]⟩)]
noncomputable def stepr9_2 : Int × Int × Int × Int × (Nat → Int) × (Nat → Int) × (Nat → Int) → Option ((Int × Int × Int × Int × (Nat → Int) × (Nat → Int) × (Nat → Int)) ⊕ ((Int × Int × Int × (Nat → Int) × (Nat → Int) × (Nat → Int))))
  | (t5, t6, t7, t8, r1, r2, r4) =>
    if (decide (t8 < (IntKind.i64.wrap (t7 + t6)))) = true then
      if (0 : Int) ≤ t5 ∧ t5 < ((256 : Int) : Int) then
        if (0 : Int) ≤ (IntKind.i64.wrap (t8 + t6)) ∧ (IntKind.i64.wrap (t8 + t6)) < ((256 : Int) : Int) then
          (Fr34 ((r4 t5.toNat), (r1 (IntKind.i64.wrap (t8 + t6)).toNat))).bind fun y3 =>
            if (0 : Int) ≤ t8 ∧ t8 < ((256 : Int) : Int) then
              (Fr35 (IntKind.i64.wrap (IntKind.i32.wrap ((r1 t8.toNat) - y3)))).bind fun y4 =>
                if (0 : Int) ≤ (IntKind.i64.wrap (t8 + t6)) ∧ (IntKind.i64.wrap (t8 + t6)) < ((256 : Int) : Int) then
                  if (0 : Int) ≤ t8 ∧ t8 < ((256 : Int) : Int) then
                    let x5 : Int := (IntKind.i32.wrap (((upd r1 (IntKind.i64.wrap (t8 + t6)).toNat y4) t8.toNat) + y3))
                    (Fr35 (IntKind.i64.wrap x5)).bind fun y6 =>
                      if (0 : Int) ≤ t8 ∧ t8 < ((256 : Int) : Int) then
                        let f7 : Nat → Int := (upd (upd r1 (IntKind.i64.wrap (t8 + t6)).toNat y4) t8.toNat y6)
                        some (.inl (t5, t6, t7, (IntKind.i64.wrap (t8 + 1)), f7, r2, r4))
                      else none
                  else none
                else none
            else none
        else none
      else none
    else
      some (.inr (t5, t6, t7, r1, r2, r4))

noncomputable def annr9_2 : Ann := .none
abbrev lr9_1 : Lay := ⟨[(1, .ptr 1 0 256), (2, .ptr 2 0 256), (4, .ptr 4 0 256)], [.env 5 (.c (.int .i64)), .env 6 (.c (.int .i64)), .env 7 (.c (.int .i64)), .reg 1 (.cells [.ints .i32 256]), .reg 2 (.cells [.ints .i32 256]), .reg 4 (.cells [.ints .i32 256])], [(1, 1), (2, 2), (4, 4)]⟩
abbrev or9_1 : List (AExit × Lay) := [(.exit 2, ⟨[(1, .ptr 1 0 256), (2, .ptr 2 0 256), (4, .ptr 4 0 256)], [.env 5 (.c (.int .i64)), .env 6 (.c (.int .i64)), .reg 1 (.cells [.ints .i32 256]), .reg 2 (.cells [.ints .i32 256]), .reg 4 (.cells [.ints .i32 256])], [(1, 1), (2, 2), (4, 4)]⟩)]
noncomputable def stepr9_1 : Int × Int × Int × (Nat → Int) × (Nat → Int) × (Nat → Int) → Option ((Int × Int × Int × (Nat → Int) × (Nat → Int) × (Nat → Int)) ⊕ ((Int × Int × (Nat → Int) × (Nat → Int) × (Nat → Int))))
  | (t5, t6, t7, r1, r2, r4) =>
    if (decide (t7 < 256)) = true then
      (loopO stepr9_2 ((IntKind.i64.wrap (t5 + 1)), t6, t7, t7, r1, r2, r4)).bind fun (z8, z9, z10, z11, z12, z13) =>
        some (.inl (z8, z9, (IntKind.i64.wrap (z10 + (IntKind.i64.wrap (2 * z9)))), z11, z12, z13))
    else
      some (.inr (t5, t6, r1, r2, r4))

noncomputable def annr9_1 : Ann := (.seq .none (.seq (.seq (.seq .none (.seq .none (.seq (.cut (cutEnt lr9_2 or9_2 (loopO stepr9_2))) .none))) .none) .none))
abbrev lr9_0 : Lay := ⟨[(1, .ptr 1 0 256), (2, .ptr 2 0 256), (4, .ptr 4 0 256)], [.env 5 (.c (.int .i64)), .env 6 (.c (.int .i64)), .reg 1 (.cells [.ints .i32 256]), .reg 2 (.cells [.ints .i32 256]), .reg 4 (.cells [.ints .i32 256])], [(1, 1), (2, 2), (4, 4)]⟩
abbrev or9_0 : List (AExit × Lay) := [(.exit 0, ⟨[(1, .ptr 1 0 256), (2, .ptr 2 0 256)], [.reg 1 (.cells [.ints .i32 256]), .reg 2 (.cells [.ints .i32 256])], [(1, 1), (2, 2)]⟩)]
noncomputable def stepr9_0 : Int × Int × (Nat → Int) × (Nat → Int) × (Nat → Int) → Option ((Int × Int × (Nat → Int) × (Nat → Int) × (Nat → Int)) ⊕ (((Nat → Int) × (Nat → Int))))
  | (t5, t6, r1, r2, r4) =>
    if (decide (t6 > 0)) = true then
      (loopO stepr9_1 (t5, t6, 0, r1, r2, r4)).bind fun (z14, z15, z16, z17, z18) =>
        some (.inl (z14, (shrI .i64 z15 1), z16, z17, z18))
    else
      some (.inr (r1, r2))

noncomputable def annr9_0 : Ann := (.seq .none (.seq (.seq (.seq .none (.seq (.cut (cutEnt lr9_1 or9_1 (loopO stepr9_1))) .none)) .none) .none))
noncomputable def Fr9 : (Nat → Int) → Option ((Nat → Int) × Int)
  | a0 =>
    (Fr32 [a0]).bind fun y1 =>
      if (!y1) = true then
        some ((fun _ => 0), 81)
      else
        (Fr33 ()).bind fun y2 =>
          (loopO stepr9_0 (0, 128, a0, (fun _ => 0), y2)).bind fun (z19, z20) =>
            some (z19, 0)

noncomputable def annr9 : Ann := (.seq .none (.seq .none (.seq .none (.seq .none (.seq (.seq .none (.seq (.cut (cutEnt lr9_0 or9_0 (loopO stepr9_0))) .none)) .none)))))
abbrev Sr9 : FSh := ⟨[.val (.agg [.ints .i32 256])], [.val (.agg [.ints .i32 256]), .val (.c (.int .i64))], [.cell 2 23, .tmp 3]⟩
noncomputable def cr9 : Ctx Go.Proofs.Try.prog := ⟨rtab, ofL Er33, rtabOk, Er33_ok, rdep, rord⟩
theorem eqr9_2 : ∀ s : lr9_2.T, exec rtab (ofL Er33) 65 (Code.at' [1, 1, 1, 1, 0, 1, 0, 0, 1, 0, 0, 1, 0, 0, 1, 0, 0, 1, 1, 0, 0] bodyr9) annr9_2 (fun e st => loopEnd (l := lr9_2) (outs := or9_2) e st) (lr9_2.enc s) = stepr9_2 s := by
  rintro ⟨t5, t6, t7, t8, r1, r2, r4⟩
  kernel_rfl
theorem okr9_2 : LOk Go.Proofs.Try.prog 65 (cutEnt lr9_2 or9_2 (loopO stepr9_2)) (Code.at' [1, 1, 1, 1, 0, 1, 0, 0, 1, 0, 0, 1, 0, 0, 1, 0, 0, 1, 1, 0] bodyr9) := by
  have e : Code.at' [1, 1, 1, 1, 0, 1, 0, 0, 1, 0, 0, 1, 0, 0, 1, 0, 0, 1, 1, 0] bodyr9 = .loop (Code.at' [1, 1, 1, 1, 0, 1, 0, 0, 1, 0, 0, 1, 0, 0, 1, 0, 0, 1, 1, 0, 0] bodyr9) := by kernel_rfl
  rw [e]
  refine loop_ok cr9 65 rfl rfl (annOk_of_cuts ?_) eqr9_2
  intro x hx
  exact absurd hx (by show x ∉ ([] : List (List Nat × LEnt)); simp)

theorem eqr9_1 : ∀ s : lr9_1.T, exec rtab (ofL Er33) 65 (Code.at' [1, 1, 1, 1, 0, 1, 0, 0, 1, 0, 0, 1, 0, 0] bodyr9) annr9_1 (fun e st => loopEnd (l := lr9_1) (outs := or9_1) e st) (lr9_1.enc s) = stepr9_1 s := by
  rintro ⟨t5, t6, t7, r1, r2, r4⟩
  kernel_rfl
theorem okr9_1 : LOk Go.Proofs.Try.prog 65 (cutEnt lr9_1 or9_1 (loopO stepr9_1)) (Code.at' [1, 1, 1, 1, 0, 1, 0, 0, 1, 0, 0, 1, 0] bodyr9) := by
  have e : Code.at' [1, 1, 1, 1, 0, 1, 0, 0, 1, 0, 0, 1, 0] bodyr9 = .loop (Code.at' [1, 1, 1, 1, 0, 1, 0, 0, 1, 0, 0, 1, 0, 0] bodyr9) := by kernel_rfl
  rw [e]
  refine loop_ok cr9 65 rfl rfl (annOk_of_cuts ?_) eqr9_1
  have hc : Ann.cuts annr9_1 = [([1, 0, 0, 1, 1, 0], (cutEnt lr9_2 or9_2 (loopO stepr9_2)))] := by kernel_rfl
  rw [hc]
  intro x hx
  simp only [List.mem_cons, List.not_mem_nil, or_false] at hx
  rcases hx with rfl
  · have e : Code.at' [1, 0, 0, 1, 1, 0] (Code.at' [1, 1, 1, 1, 0, 1, 0, 0, 1, 0, 0, 1, 0, 0] bodyr9) = Code.at' [1, 1, 1, 1, 0, 1, 0, 0, 1, 0, 0, 1, 0, 0, 1, 0, 0, 1, 1, 0] bodyr9 := by kernel_rfl
    rw [e]; exact okr9_2

theorem eqr9_0 : ∀ s : lr9_0.T, exec rtab (ofL Er33) 65 (Code.at' [1, 1, 1, 1, 0, 1, 0, 0] bodyr9) annr9_0 (fun e st => loopEnd (l := lr9_0) (outs := or9_0) e st) (lr9_0.enc s) = stepr9_0 s := by
  rintro ⟨t5, t6, r1, r2, r4⟩
  kernel_rfl
theorem okr9_0 : LOk Go.Proofs.Try.prog 65 (cutEnt lr9_0 or9_0 (loopO stepr9_0)) (Code.at' [1, 1, 1, 1, 0, 1, 0] bodyr9) := by
  have e : Code.at' [1, 1, 1, 1, 0, 1, 0] bodyr9 = .loop (Code.at' [1, 1, 1, 1, 0, 1, 0, 0] bodyr9) := by kernel_rfl
  rw [e]
  refine loop_ok cr9 65 rfl rfl (annOk_of_cuts ?_) eqr9_0
  have hc : Ann.cuts annr9_0 = [([1, 0, 0, 1, 0], (cutEnt lr9_1 or9_1 (loopO stepr9_1)))] := by kernel_rfl
  rw [hc]
  intro x hx
  simp only [List.mem_cons, List.not_mem_nil, or_false] at hx
  rcases hx with rfl
  · have e : Code.at' [1, 0, 0, 1, 0] (Code.at' [1, 1, 1, 1, 0, 1, 0, 0] bodyr9) = Code.at' [1, 1, 1, 1, 0, 1, 0, 0, 1, 0, 0, 1, 0] bodyr9 := by kernel_rfl
    rw [e]; exact okr9_1

theorem eqr9 : ∀ x : psT Sr9.ps, exec rtab (ofL Er33) 65 bodyr9 annr9 (fin rtab Sr9) (argSt Sr9 x) = Fr9 x := by
  intro x
  kernel_rfl
theorem callsr9 : CallsAs Go.Proofs.Try.prog cr9 9 Sr9 Fr9 := by
  refine fun_calls (fn := Go.Proofs.Try.f9) (c := bodyr9) (ann := annr9) cr9 (by kernel_rfl) (by kernel_rfl) (by kernel_rfl) (by decide) (annOk_of_cuts ?_) eqr9
  have hc : Ann.cuts annr9 = [([1, 1, 1, 1, 0, 1, 0], (cutEnt lr9_0 or9_0 (loopO stepr9_0)))] := by kernel_rfl
  rw [hc]
  intro x hx
  simp only [List.mem_cons, List.not_mem_nil, or_false] at hx
  rcases hx with rfl
  · have e : Code.at' [1, 1, 1, 1, 0, 1, 0] bodyr9 = Code.at' [1, 1, 1, 1, 0, 1, 0] bodyr9 := by kernel_rfl
    rw [e]; exact okr9_0

theorem entr9 : EntOk Go.Proofs.Try.prog 9 (funEnt Sr9 Fr9) := fun_ok cr9 (fn := Go.Proofs.Try.f9) (c := bodyr9) (by kernel_rfl) (by kernel_rfl) (by kernel_rfl) rfl rfl (by decide) callsr9
noncomputable def Er9 : List (Nat × Ent) := (9, funEnt Sr9 Fr9) :: Er33
theorem Er9_ok : EntsOk Go.Proofs.Try.prog (ofL Er9) := .cons entr9 Er33_ok

/-! ### barbican/ring.rest -/
noncomputable def bodyr38 : Code := (Go.Proofs.Try.f38.body).getD .skip
noncomputable def Fr38 : Int × Int → Option (Int)
  | (a0, a1) =>
    if a1 ≠ 0 then
      if (decide ((a0.tmod a1) > (IntKind.i32.wrap (a1.tdiv 2)))) = true then
        some (IntKind.i32.wrap ((a0.tmod a1) - a1))
      else
        some (a0.tmod a1)
    else none

noncomputable def annr38 : Ann := .none
abbrev Sr38 : FSh := ⟨[.val (.c (.int .i32)), .val (.c (.int .i32))], [.val (.c (.int .i32))], [.tmp 4]⟩
noncomputable def cr38 : Ctx Go.Proofs.Try.prog := ⟨rtab, ofL Er9, rtabOk, Er9_ok, rdep, rord⟩
theorem eqr38 : ∀ x : psT Sr38.ps, exec rtab (ofL Er9) 16 bodyr38 annr38 (fin rtab Sr38) (argSt Sr38 x) = Fr38 x := by
  rintro ⟨a0, a1⟩
  kernel_rfl
theorem callsr38 : CallsAs Go.Proofs.Try.prog cr38 38 Sr38 Fr38 := by
  refine fun_calls (fn := Go.Proofs.Try.f38) (c := bodyr38) (ann := annr38) cr38 (by kernel_rfl) (by kernel_rfl) (by kernel_rfl) (by decide) (annOk_of_cuts ?_) eqr38
  intro x hx
  exact absurd hx (by show x ∉ ([] : List (List Nat × LEnt)); simp)

theorem entr38 : EntOk Go.Proofs.Try.prog 38 (funEnt Sr38 Fr38) := fun_ok cr38 (fn := Go.Proofs.Try.f38) (c := bodyr38) (by kernel_rfl) (by kernel_rfl) (by kernel_rfl) rfl rfl (by decide) callsr38
noncomputable def Er38 : List (Nat × Ent) := (38, funEnt Sr38 Fr38) :: Er9
theorem Er38_ok : EntsOk Go.Proofs.Try.prog (ofL Er38) := .cons entr38 Er9_ok

/-! ### barbican/ring.Decompose -/
noncomputable def bodyr14 : Code := (Go.Proofs.Try.f14.body).getD .skip
noncomputable def Fr14 : Int → Option (Int × Int × Int)
  | a0 =>
    if (decide (a0 < 0)) = false then
      if (decide (a0 ≥ 8380417)) = true then
        some (0, 0, 81)
      else
        (Fr38 (a0, 523776)).bind fun y1 =>
          if ((IntKind.i32.wrap (a0 - y1)) == 8380416) = true then
            some (0, (IntKind.i32.wrap (y1 - 1)), 0)
          else
            let x2 : Int := (IntKind.i32.wrap ((IntKind.i32.wrap (a0 - y1)).tdiv 523776))
            some (x2, y1, 0)
    else
      some (0, 0, 81)

noncomputable def annr14 : Ann := .none
abbrev Sr14 : FSh := ⟨[.val (.c (.int .i32))], [.val (.c (.int .i32)), .val (.c (.int .i32)), .val (.c (.int .i64))], [.tmp 2, .tmp 3, .tmp 4]⟩
noncomputable def cr14 : Ctx Go.Proofs.Try.prog := ⟨rtab, ofL Er38, rtabOk, Er38_ok, rdep, rord⟩
theorem eqr14 : ∀ x : psT Sr14.ps, exec rtab (ofL Er38) 25 bodyr14 annr14 (fin rtab Sr14) (argSt Sr14 x) = Fr14 x := by
  intro x
  kernel_rfl
theorem callsr14 : CallsAs Go.Proofs.Try.prog cr14 14 Sr14 Fr14 := by
  refine fun_calls (fn := Go.Proofs.Try.f14) (c := bodyr14) (ann := annr14) cr14 (by kernel_rfl) (by kernel_rfl) (by kernel_rfl) (by decide) (annOk_of_cuts ?_) eqr14
  intro x hx
  exact absurd hx (by show x ∉ ([] : List (List Nat × LEnt)); simp)

theorem entr14 : EntOk Go.Proofs.Try.prog 14 (funEnt Sr14 Fr14) := fun_ok cr14 (fn := Go.Proofs.Try.f14) (c := bodyr14) (by kernel_rfl) (by kernel_rfl) (by kernel_rfl) rfl rfl (by decide) callsr14
noncomputable def Er14 : List (Nat × Ent) := (14, funEnt Sr14 Fr14) :: Er38
theorem Er14_ok : EntsOk Go.Proofs.Try.prog (ofL Er14) := .cons entr14 Er38_ok

/-! ### barbican/barbicanlaw08.awake -/
noncomputable def bodyr8 : Code := (Go.Proofs.Try.f8.body).getD .skip
noncomputable def Fr8 : Unit → Option (Bool)
  | _ =>
    (Fr9 (upd (upd (fun _ => 0) 0 0) 1 1)).bind fun (y1, y2) =>
      (Fr14 261889).bind fun (y3, y4, y5) =>
        if (y2 == 0) = true then
          if ((y1 0) == 1753) = true then
            if (y5 == 0) = true then
              if (y3 == 1) = true then
                some (y4 == (-261887))
              else
                some false
            else
              some false
          else
            some false
        else
          some false

noncomputable def annr8 : Ann := .none
abbrev Sr8 : FSh := ⟨[], [.val (.c (.bool))], [.tmp 0]⟩
noncomputable def cr8 : Ctx Go.Proofs.Try.prog := ⟨rtab, ofL Er14, rtabOk, Er14_ok, rdep, rord⟩
theorem eqr8 : ∀ x : psT Sr8.ps, exec rtab (ofL Er14) 37 bodyr8 annr8 (fin rtab Sr8) (argSt Sr8 x) = Fr8 x := by
  intro x
  kernel_rfl
theorem callsr8 : CallsAs Go.Proofs.Try.prog cr8 8 Sr8 Fr8 := by
  refine fun_calls (fn := Go.Proofs.Try.f8) (c := bodyr8) (ann := annr8) cr8 (by kernel_rfl) (by kernel_rfl) (by kernel_rfl) (by decide) (annOk_of_cuts ?_) eqr8
  intro x hx
  exact absurd hx (by show x ∉ ([] : List (List Nat × LEnt)); simp)

theorem entr8 : EntOk Go.Proofs.Try.prog 8 (funEnt Sr8 Fr8) := fun_ok cr8 (fn := Go.Proofs.Try.f8) (c := bodyr8) (by kernel_rfl) (by kernel_rfl) (by kernel_rfl) rfl rfl (by decide) callsr8
noncomputable def Er8 : List (Nat × Ent) := (8, funEnt Sr8 Fr8) :: Er14
theorem Er8_ok : EntsOk Go.Proofs.Try.prog (ofL Er8) := .cons entr8 Er14_ok

/-! ### barbican/ring.Back -/
noncomputable def bodyr10 : Code := (Go.Proofs.Try.f10.body).getD .skip
abbrev lr10_2 : Lay := ⟨[(1, .ptr 1 0 256), (2, .ptr 2 0 256), (4, .ptr 4 0 256)], [.env 5 (.c (.int .i64)), .env 6 (.c (.int .i64)), .env 7 (.c (.int .i64)), .env 8 (.c (.int .i64)), .reg 1 (.cells [.ints .i32 256]), .reg 2 (.cells [.ints .i32 256]), .reg 4 (.cells [.ints .i32 256])], [(1, 1), (2, 2), (4, 4)]⟩
abbrev or10_2 : List (AExit × Lay) := [(.exit 4, ⟨[(1, .ptr 1 0 256), (2, .ptr 2 0 256), (4, .ptr 4 0 256)], [.env 5 (.c (.int .i64)), .env 6 (.c (.int .i64)), .env 7 (.c (.int .i64)), .reg 1 (.cells [.ints .i32 256]), .reg 2 (.cells [.ints .i32 256]), .reg 4 (.cells [.ints .i32 256])], [(1, 1), (2, 2), (4, 4)]⟩)]
noncomputable def stepr10_2 : Int × Int × Int × Int × (Nat → Int) × (Nat → Int) × (Nat → Int) → Option ((Int × Int × Int × Int × (Nat → Int) × (Nat → Int) × (Nat → Int)) ⊕ ((Int × Int × Int × (Nat → Int) × (Nat → Int) × (Nat → Int))))
  | (t5, t6, t7, t8, r1, r2, r4) =>
    if (decide (t8 < (IntKind.i64.wrap (t7 + t6)))) = true then
      if (0 : Int) ≤ t8 ∧ t8 < ((256 : Int) : Int) then
        if (0 : Int) ≤ (IntKind.i64.wrap (t8 + t6)) ∧ (IntKind.i64.wrap (t8 + t6)) < ((256 : Int) : Int) then
          let x3 : Int := (IntKind.i32.wrap ((r1 t8.toNat) + (r1 (IntKind.i64.wrap (t8 + t6)).toNat)))
          (Fr35 (IntKind.i64.wrap x3)).bind fun y4 =>
            if (0 : Int) ≤ t8 ∧ t8 < ((256 : Int) : Int) then
              if (0 : Int) ≤ t5 ∧ t5 < ((256 : Int) : Int) then
                if (0 : Int) ≤ (IntKind.i64.wrap (t8 + t6)) ∧ (IntKind.i64.wrap (t8 + t6)) < ((256 : Int) : Int) then
                  let x5 : Int := (IntKind.i32.wrap ((r1 t8.toNat) - ((upd r1 t8.toNat y4) (IntKind.i64.wrap (t8 + t6)).toNat)))
                  (Fr35 (IntKind.i64.wrap x5)).bind fun y6 =>
                    (Fr34 ((IntKind.i32.wrap (8380417 - (r4 t5.toNat))), y6)).bind fun y7 =>
                      if (0 : Int) ≤ (IntKind.i64.wrap (t8 + t6)) ∧ (IntKind.i64.wrap (t8 + t6)) < ((256 : Int) : Int) then
                        let f8 : Nat → Int := (upd (upd r1 t8.toNat y4) (IntKind.i64.wrap (t8 + t6)).toNat y7)
                        some (.inl (t5, t6, t7, (IntKind.i64.wrap (t8 + 1)), f8, r2, r4))
                      else none
                else none
              else none
            else none
        else none
      else none
    else
      some (.inr (t5, t6, t7, r1, r2, r4))

noncomputable def annr10_2 : Ann := .none
abbrev lr10_1 : Lay := ⟨[(1, .ptr 1 0 256), (2, .ptr 2 0 256), (4, .ptr 4 0 256)], [.env 5 (.c (.int .i64)), .env 6 (.c (.int .i64)), .env 7 (.c (.int .i64)), .reg 1 (.cells [.ints .i32 256]), .reg 2 (.cells [.ints .i32 256]), .reg 4 (.cells [.ints .i32 256])], [(1, 1), (2, 2), (4, 4)]⟩
abbrev or10_1 : List (AExit × Lay) := [(.exit 2, ⟨[(1, .ptr 1 0 256), (2, .ptr 2 0 256), (4, .ptr 4 0 256)], [.env 5 (.c (.int .i64)), .env 6 (.c (.int .i64)), .reg 1 (.cells [.ints .i32 256]), .reg 2 (.cells [.ints .i32 256]), .reg 4 (.cells [.ints .i32 256])], [(1, 1), (2, 2), (4, 4)]⟩)]
noncomputable def stepr10_1 : Int × Int × Int × (Nat → Int) × (Nat → Int) × (Nat → Int) → Option ((Int × Int × Int × (Nat → Int) × (Nat → Int) × (Nat → Int)) ⊕ ((Int × Int × (Nat → Int) × (Nat → Int) × (Nat → Int))))
  | (t5, t6, t7, r1, r2, r4) =>
    if (decide (t7 < 256)) = true then
      (loopO stepr10_2 ((IntKind.i64.wrap (t5 - 1)), t6, t7, t7, r1, r2, r4)).bind fun (z9, z10, z11, z12, z13, z14) =>
        some (.inl (z9, z10, (IntKind.i64.wrap (z11 + (IntKind.i64.wrap (2 * z10)))), z12, z13, z14))
    else
      some (.inr (t5, t6, r1, r2, r4))

noncomputable def annr10_1 : Ann := (.seq .none (.seq (.seq (.seq .none (.seq .none (.seq (.cut (cutEnt lr10_2 or10_2 (loopO stepr10_2))) .none))) .none) .none))
abbrev lr10_0 : Lay := ⟨[(1, .ptr 1 0 256), (2, .ptr 2 0 256), (4, .ptr 4 0 256)], [.env 5 (.c (.int .i64)), .env 6 (.c (.int .i64)), .reg 1 (.cells [.ints .i32 256]), .reg 2 (.cells [.ints .i32 256]), .reg 4 (.cells [.ints .i32 256])], [(1, 1), (2, 2), (4, 4)]⟩
abbrev or10_0 : List (AExit × Lay) := [(.exit 0, ⟨[(1, .ptr 1 0 256), (2, .ptr 2 0 256)], [.reg 1 (.cells [.ints .i32 256]), .reg 2 (.cells [.ints .i32 256])], [(1, 1), (2, 2)]⟩)]
noncomputable def stepr10_0 : Int × Int × (Nat → Int) × (Nat → Int) × (Nat → Int) → Option ((Int × Int × (Nat → Int) × (Nat → Int) × (Nat → Int)) ⊕ (((Nat → Int) × (Nat → Int))))
  | (t5, t6, r1, r2, r4) =>
    if (decide (t6 < 256)) = true then
      (loopO stepr10_1 (t5, t6, 0, r1, r2, r4)).bind fun (z15, z16, z17, z18, z19) =>
        some (.inl (z15, (shlI .i64 z16 1), z17, z18, z19))
    else
      some (.inr (r1, r2))

noncomputable def annr10_0 : Ann := (.seq .none (.seq (.seq (.seq .none (.seq (.cut (cutEnt lr10_1 or10_1 (loopO stepr10_1))) .none)) .none) .none))
abbrev lr10_3 : Lay := ⟨[(1, .ptr 1 0 256), (2, .ptr 2 0 256)], [.env 69 (.agg [.ints .i32 256]), .env 70 (.c (.int .i64)), .reg 1 (.cells [.ints .i32 256]), .reg 2 (.cells [.ints .i32 256])], [(1, 1), (2, 2)]⟩
abbrev or10_3 : List (AExit × Lay) := [(.exit 6, ⟨[(1, .ptr 1 0 256), (2, .ptr 2 0 256)], [.reg 1 (.cells [.ints .i32 256]), .reg 2 (.cells [.ints .i32 256])], [(1, 1), (2, 2)]⟩)]
noncomputable def stepr10_3 : (Nat → Int) × Int × (Nat → Int) × (Nat → Int) → Option (((Nat → Int) × Int × (Nat → Int) × (Nat → Int)) ⊕ (((Nat → Int) × (Nat → Int))))
  | (t69, t70, r1, r2) =>
    if (decide (t70 < 256)) = true then
      if (0 : Int) ≤ t70 ∧ t70 < (256 : Int) then
        (Fr34 ((t69 t70.toNat), 8347681)).bind fun y22 =>
          if (0 : Int) ≤ t70 ∧ t70 < ((256 : Int) : Int) then
            some (.inl (t69, (IntKind.i64.wrap (t70 + 1)), (upd r1 t70.toNat y22), r2))
          else none
      else none
    else
      some (.inr (r1, r2))

noncomputable def annr10_3 : Ann := .none
noncomputable def Fr10 : (Nat → Int) → Option ((Nat → Int) × Int)
  | a0 =>
    (Fr32 [a0]).bind fun y1 =>
      if (!y1) = true then
        some ((fun _ => 0), 81)
      else
        (Fr33 ()).bind fun y2 =>
          (loopO stepr10_0 (256, 1, a0, (fun _ => 0), y2)).bind fun (z20, z21) =>
            (loopO stepr10_3 (z20, 0, z20, z21)).bind fun (z23, z24) =>
              some (z23, 0)

noncomputable def annr10 : Ann := (.seq .none (.seq .none (.seq .none (.seq .none (.seq (.seq .none (.seq (.cut (cutEnt lr10_0 or10_0 (loopO stepr10_0))) .none)) (.seq (.seq .none (.seq (.cut (cutEnt lr10_3 or10_3 (loopO stepr10_3))) .none)) .none))))))
abbrev Sr10 : FSh := ⟨[.val (.agg [.ints .i32 256])], [.val (.agg [.ints .i32 256]), .val (.c (.int .i64))], [.cell 2 23, .tmp 3]⟩
noncomputable def cr10 : Ctx Go.Proofs.Try.prog := ⟨rtab, ofL Er8, rtabOk, Er8_ok, rdep, rord⟩
theorem eqr10_2 : ∀ s : lr10_2.T, exec rtab (ofL Er8) 80 (Code.at' [1, 1, 1, 1, 0, 1, 0, 0, 1, 0, 0, 1, 0, 0, 1, 0, 0, 1, 1, 0, 0] bodyr10) annr10_2 (fun e st => loopEnd (l := lr10_2) (outs := or10_2) e st) (lr10_2.enc s) = stepr10_2 s := by
  rintro ⟨t5, t6, t7, t8, r1, r2, r4⟩
  kernel_rfl
theorem okr10_2 : LOk Go.Proofs.Try.prog 80 (cutEnt lr10_2 or10_2 (loopO stepr10_2)) (Code.at' [1, 1, 1, 1, 0, 1, 0, 0, 1, 0, 0, 1, 0, 0, 1, 0, 0, 1, 1, 0] bodyr10) := by
  have e : Code.at' [1, 1, 1, 1, 0, 1, 0, 0, 1, 0, 0, 1, 0, 0, 1, 0, 0, 1, 1, 0] bodyr10 = .loop (Code.at' [1, 1, 1, 1, 0, 1, 0, 0, 1, 0, 0, 1, 0, 0, 1, 0, 0, 1, 1, 0, 0] bodyr10) := by kernel_rfl
  rw [e]
  refine loop_ok cr10 80 rfl rfl (annOk_of_cuts ?_) eqr10_2
  intro x hx
  exact absurd hx (by show x ∉ ([] : List (List Nat × LEnt)); simp)

theorem eqr10_1 : ∀ s : lr10_1.T, exec rtab (ofL Er8) 80 (Code.at' [1, 1, 1, 1, 0, 1, 0, 0, 1, 0, 0, 1, 0, 0] bodyr10) annr10_1 (fun e st => loopEnd (l := lr10_1) (outs := or10_1) e st) (lr10_1.enc s) = stepr10_1 s := by
  rintro ⟨t5, t6, t7, r1, r2, r4⟩
  kernel_rfl
theorem okr10_1 : LOk Go.Proofs.Try.prog 80 (cutEnt lr10_1 or10_1 (loopO stepr10_1)) (Code.at' [1, 1, 1, 1, 0, 1, 0, 0, 1, 0, 0, 1, 0] bodyr10) := by
  have e : Code.at' [1, 1, 1, 1, 0, 1, 0, 0, 1, 0, 0, 1, 0] bodyr10 = .loop (Code.at' [1, 1, 1, 1, 0, 1, 0, 0, 1, 0, 0, 1, 0, 0] bodyr10) := by kernel_rfl
  rw [e]
  refine loop_ok cr10 80 rfl rfl (annOk_of_cuts ?_) eqr10_1
  have hc : Ann.cuts annr10_1 = [([1, 0, 0, 1, 1, 0], (cutEnt lr10_2 or10_2 (loopO stepr10_2)))] := by kernel_rfl
  rw [hc]
  intro x hx
  simp only [List.mem_cons, List.not_mem_nil, or_false] at hx
  rcases hx with rfl
  · have e : Code.at' [1, 0, 0, 1, 1, 0] (Code.at' [1, 1, 1, 1, 0, 1, 0, 0, 1, 0, 0, 1, 0, 0] bodyr10) = Code.at' [1, 1, 1, 1, 0, 1, 0, 0, 1, 0, 0, 1, 0, 0, 1, 0, 0, 1, 1, 0] bodyr10 := by kernel_rfl
    rw [e]; exact okr10_2

theorem eqr10_0 : ∀ s : lr10_0.T, exec rtab (ofL Er8) 80 (Code.at' [1, 1, 1, 1, 0, 1, 0, 0] bodyr10) annr10_0 (fun e st => loopEnd (l := lr10_0) (outs := or10_0) e st) (lr10_0.enc s) = stepr10_0 s := by
  rintro ⟨t5, t6, r1, r2, r4⟩
  kernel_rfl
theorem okr10_0 : LOk Go.Proofs.Try.prog 80 (cutEnt lr10_0 or10_0 (loopO stepr10_0)) (Code.at' [1, 1, 1, 1, 0, 1, 0] bodyr10) := by
  have e : Code.at' [1, 1, 1, 1, 0, 1, 0] bodyr10 = .loop (Code.at' [1, 1, 1, 1, 0, 1, 0, 0] bodyr10) := by kernel_rfl
  rw [e]
  refine loop_ok cr10 80 rfl rfl (annOk_of_cuts ?_) eqr10_0
  have hc : Ann.cuts annr10_0 = [([1, 0, 0, 1, 0], (cutEnt lr10_1 or10_1 (loopO stepr10_1)))] := by kernel_rfl
  rw [hc]
  intro x hx
  simp only [List.mem_cons, List.not_mem_nil, or_false] at hx
  rcases hx with rfl
  · have e : Code.at' [1, 0, 0, 1, 0] (Code.at' [1, 1, 1, 1, 0, 1, 0, 0] bodyr10) = Code.at' [1, 1, 1, 1, 0, 1, 0, 0, 1, 0, 0, 1, 0] bodyr10 := by kernel_rfl
    rw [e]; exact okr10_1

theorem eqr10_3 : ∀ s : lr10_3.T, exec rtab (ofL Er8) 80 (Code.at' [1, 1, 1, 1, 1, 0, 1, 0, 0] bodyr10) annr10_3 (fun e st => loopEnd (l := lr10_3) (outs := or10_3) e st) (lr10_3.enc s) = stepr10_3 s := by
  rintro ⟨t69, t70, r1, r2⟩
  kernel_rfl
theorem okr10_3 : LOk Go.Proofs.Try.prog 80 (cutEnt lr10_3 or10_3 (loopO stepr10_3)) (Code.at' [1, 1, 1, 1, 1, 0, 1, 0] bodyr10) := by
  have e : Code.at' [1, 1, 1, 1, 1, 0, 1, 0] bodyr10 = .loop (Code.at' [1, 1, 1, 1, 1, 0, 1, 0, 0] bodyr10) := by kernel_rfl
  rw [e]
  refine loop_ok cr10 80 rfl rfl (annOk_of_cuts ?_) eqr10_3
  intro x hx
  exact absurd hx (by show x ∉ ([] : List (List Nat × LEnt)); simp)

theorem eqr10 : ∀ x : psT Sr10.ps, exec rtab (ofL Er8) 80 bodyr10 annr10 (fin rtab Sr10) (argSt Sr10 x) = Fr10 x := by
  intro x
  kernel_rfl
theorem callsr10 : CallsAs Go.Proofs.Try.prog cr10 10 Sr10 Fr10 := by
  refine fun_calls (fn := Go.Proofs.Try.f10) (c := bodyr10) (ann := annr10) cr10 (by kernel_rfl) (by kernel_rfl) (by kernel_rfl) (by decide) (annOk_of_cuts ?_) eqr10
  have hc : Ann.cuts annr10 = [([1, 1, 1, 1, 0, 1, 0], (cutEnt lr10_0 or10_0 (loopO stepr10_0))), ([1, 1, 1, 1, 1, 0, 1, 0], (cutEnt lr10_3 or10_3 (loopO stepr10_3)))] := by kernel_rfl
  rw [hc]
  intro x hx
  simp only [List.mem_cons, List.not_mem_nil, or_false] at hx
  rcases hx with rfl | rfl
  · have e : Code.at' [1, 1, 1, 1, 0, 1, 0] bodyr10 = Code.at' [1, 1, 1, 1, 0, 1, 0] bodyr10 := by kernel_rfl
    rw [e]; exact okr10_0
  · have e : Code.at' [1, 1, 1, 1, 1, 0, 1, 0] bodyr10 = Code.at' [1, 1, 1, 1, 1, 0, 1, 0] bodyr10 := by kernel_rfl
    rw [e]; exact okr10_3

theorem entr10 : EntOk Go.Proofs.Try.prog 10 (funEnt Sr10 Fr10) := fun_ok cr10 (fn := Go.Proofs.Try.f10) (c := bodyr10) (by kernel_rfl) (by kernel_rfl) (by kernel_rfl) rfl rfl (by decide) callsr10
noncomputable def Er10 : List (Nat × Ent) := (10, funEnt Sr10 Fr10) :: Er8
theorem Er10_ok : EntsOk Go.Proofs.Try.prog (ofL Er10) := .cons entr10 Er8_ok

/-! ### barbican/barbicanref08.Plain -/
noncomputable def bodyr11 : Code := (Go.Proofs.Try.f11.body).getD .skip
abbrev lr11_0 : Lay := ⟨[(1, .ptr 1 0 256)], [.env 3 (.c (.int .i64)), .reg 1 (.cells [.ints .i32 256])], [(1, 1)]⟩
abbrev or11_0 : List (AExit × Lay) := [(.ret, ⟨[], [.env 2 (.c (.bool))], []⟩), (.exit 0, ⟨[], [], []⟩)]
noncomputable def stepr11_0 : Int × (Nat → Int) → Option ((Int × (Nat → Int)) ⊕ ((Bool) ⊕ (Unit)))
  | (t3, r1) =>
    if (decide (t3 < 256)) = true then
      if (0 : Int) ≤ t3 ∧ t3 < ((256 : Int) : Int) then
        if (decide ((r1 t3.toNat) < 0)) = false then
          if (0 : Int) ≤ t3 ∧ t3 < ((256 : Int) : Int) then
            if (decide ((r1 t3.toNat) ≥ 8380417)) = true then
              some (.inr (.inl false))
            else
              some (.inl ((IntKind.i64.wrap (t3 + 1)), r1))
          else none
        else
          some (.inr (.inl false))
      else none
    else
      some (.inr (.inr ()))

noncomputable def annr11_0 : Ann := .none
noncomputable def Fr11 : (Nat → Int) → Option (Bool)
  | a0 =>
    (loopO stepr11_0 (0, a0)).bind fun
      | (.inl z2) =>
        some z2
      | (.inr _) =>
        some true

noncomputable def annr11 : Ann := (.seq .none (.seq (.seq .none (.seq (.cut (cutEnt lr11_0 or11_0 (loopO stepr11_0))) .none)) .none))
abbrev Sr11 : FSh := ⟨[.val (.agg [.ints .i32 256])], [.val (.c (.bool))], [.tmp 2]⟩
noncomputable def cr11 : Ctx Go.Proofs.Try.prog := ⟨rtab, ofL Er10, rtabOk, Er10_ok, rdep, rord⟩
theorem eqr11_0 : ∀ s : lr11_0.T, exec rtab (ofL Er10) 18 (Code.at' [1, 0, 1, 0, 0] bodyr11) annr11_0 (fun e st => loopEnd (l := lr11_0) (outs := or11_0) e st) (lr11_0.enc s) = stepr11_0 s := by
  rintro ⟨t3, r1⟩
  kernel_rfl
theorem okr11_0 : LOk Go.Proofs.Try.prog 18 (cutEnt lr11_0 or11_0 (loopO stepr11_0)) (Code.at' [1, 0, 1, 0] bodyr11) := by
  have e : Code.at' [1, 0, 1, 0] bodyr11 = .loop (Code.at' [1, 0, 1, 0, 0] bodyr11) := by kernel_rfl
  rw [e]
  refine loop_ok cr11 18 rfl rfl (annOk_of_cuts ?_) eqr11_0
  intro x hx
  exact absurd hx (by show x ∉ ([] : List (List Nat × LEnt)); simp)

theorem eqr11 : ∀ x : psT Sr11.ps, exec rtab (ofL Er10) 18 bodyr11 annr11 (fin rtab Sr11) (argSt Sr11 x) = Fr11 x := by
  intro x
  kernel_rfl
theorem callsr11 : CallsAs Go.Proofs.Try.prog cr11 11 Sr11 Fr11 := by
  refine fun_calls (fn := Go.Proofs.Try.f11) (c := bodyr11) (ann := annr11) cr11 (by kernel_rfl) (by kernel_rfl) (by kernel_rfl) (by decide) (annOk_of_cuts ?_) eqr11
  have hc : Ann.cuts annr11 = [([1, 0, 1, 0], (cutEnt lr11_0 or11_0 (loopO stepr11_0)))] := by kernel_rfl
  rw [hc]
  intro x hx
  simp only [List.mem_cons, List.not_mem_nil, or_false] at hx
  rcases hx with rfl
  · have e : Code.at' [1, 0, 1, 0] bodyr11 = Code.at' [1, 0, 1, 0] bodyr11 := by kernel_rfl
    rw [e]; exact okr11_0

theorem entr11 : EntOk Go.Proofs.Try.prog 11 (funEnt Sr11 Fr11) := fun_ok cr11 (fn := Go.Proofs.Try.f11) (c := bodyr11) (by kernel_rfl) (by kernel_rfl) (by kernel_rfl) rfl rfl (by decide) callsr11
noncomputable def Er11 : List (Nat × Ent) := (11, funEnt Sr11 Fr11) :: Er10
theorem Er11_ok : EntsOk Go.Proofs.Try.prog (ofL Er11) := .cons entr11 Er10_ok

/-! ### barbican/barbicanref08.Turned -/
noncomputable def bodyr37 : Code := (Go.Proofs.Try.f37.body).getD .skip
abbrev lr37_0 : Lay := ⟨[], [.env 0 (.c (.int .i64)), .env 3 (.c (.int .i64)), .env 4 (.c (.int .i64))], []⟩
abbrev or37_0 : List (AExit × Lay) := [(.exit 0, ⟨[], [.env 3 (.c (.int .i64))], []⟩)]
noncomputable def stepr37_0 : Int × Int × Int → Option ((Int × Int × Int) ⊕ ((Int)))
  | (t0, t3, t4) =>
    if (decide (t4 < 8)) = true then
      let x1 : Int := (IntKind.i64.wrap ((IntKind.i64.wrap (2 * t3)) + (t0.tmod 2)))
      some (.inl ((IntKind.i64.wrap (t0.tdiv 2)), x1, (IntKind.i64.wrap (t4 + 1))))
    else
      some (.inr t3)

noncomputable def annr37_0 : Ann := .none
noncomputable def Fr37 : Int → Option (Int)
  | a0 =>
    (loopO stepr37_0 (a0, 0, 0)).bind fun z2 =>
      some z2

noncomputable def annr37 : Ann := (.seq .none (.seq .none (.seq (.seq .none (.seq (.cut (cutEnt lr37_0 or37_0 (loopO stepr37_0))) .none)) .none)))
abbrev Sr37 : FSh := ⟨[.val (.c (.int .i64))], [.val (.c (.int .i64))], [.tmp 2]⟩
noncomputable def cr37 : Ctx Go.Proofs.Try.prog := ⟨rtab, ofL Er11, rtabOk, Er11_ok, rdep, rord⟩
theorem eqr37_0 : ∀ s : lr37_0.T, exec rtab (ofL Er11) 17 (Code.at' [1, 1, 0, 1, 0, 0] bodyr37) annr37_0 (fun e st => loopEnd (l := lr37_0) (outs := or37_0) e st) (lr37_0.enc s) = stepr37_0 s := by
  rintro ⟨t0, t3, t4⟩
  kernel_rfl
theorem okr37_0 : LOk Go.Proofs.Try.prog 17 (cutEnt lr37_0 or37_0 (loopO stepr37_0)) (Code.at' [1, 1, 0, 1, 0] bodyr37) := by
  have e : Code.at' [1, 1, 0, 1, 0] bodyr37 = .loop (Code.at' [1, 1, 0, 1, 0, 0] bodyr37) := by kernel_rfl
  rw [e]
  refine loop_ok cr37 17 rfl rfl (annOk_of_cuts ?_) eqr37_0
  intro x hx
  exact absurd hx (by show x ∉ ([] : List (List Nat × LEnt)); simp)

theorem eqr37 : ∀ x : psT Sr37.ps, exec rtab (ofL Er11) 17 bodyr37 annr37 (fin rtab Sr37) (argSt Sr37 x) = Fr37 x := by
  intro x
  kernel_rfl
theorem callsr37 : CallsAs Go.Proofs.Try.prog cr37 37 Sr37 Fr37 := by
  refine fun_calls (fn := Go.Proofs.Try.f37) (c := bodyr37) (ann := annr37) cr37 (by kernel_rfl) (by kernel_rfl) (by kernel_rfl) (by decide) (annOk_of_cuts ?_) eqr37
  have hc : Ann.cuts annr37 = [([1, 1, 0, 1, 0], (cutEnt lr37_0 or37_0 (loopO stepr37_0)))] := by kernel_rfl
  rw [hc]
  intro x hx
  simp only [List.mem_cons, List.not_mem_nil, or_false] at hx
  rcases hx with rfl
  · have e : Code.at' [1, 1, 0, 1, 0] bodyr37 = Code.at' [1, 1, 0, 1, 0] bodyr37 := by kernel_rfl
    rw [e]; exact okr37_0

theorem entr37 : EntOk Go.Proofs.Try.prog 37 (funEnt Sr37 Fr37) := fun_ok cr37 (fn := Go.Proofs.Try.f37) (c := bodyr37) (by kernel_rfl) (by kernel_rfl) (by kernel_rfl) rfl rfl (by decide) callsr37
noncomputable def Er37 : List (Nat × Ent) := (37, funEnt Sr37 Fr37) :: Er11
theorem Er37_ok : EntsOk Go.Proofs.Try.prog (ofL Er37) := .cons entr37 Er11_ok

/-! ### barbican/barbicanref08.Power -/
noncomputable def bodyr36 : Code := (Go.Proofs.Try.f36.body).getD .skip
abbrev lr36_0 : Lay := ⟨[], [.env 3 (.c (.int .i64)), .env 4 (.c (.int .i64)), .env 5 (.c (.int .i64))], []⟩
abbrev or36_0 : List (AExit × Lay) := [(.exit 0, ⟨[], [.env 3 (.c (.int .i64))], []⟩)]
noncomputable def stepr36_0 : Int × Int × Int → Option ((Int × Int × Int) ⊕ ((Int)))
  | (t3, t4, t5) =>
    if (decide (t5 > 0)) = true then
      if ((t5.tmod 2) == 1) = true then
        some (.inl (((IntKind.i64.wrap (t3 * t4)).tmod 8380417), ((IntKind.i64.wrap (t4 * t4)).tmod 8380417), (IntKind.i64.wrap (t5.tdiv 2))))
      else
        some (.inl (t3, ((IntKind.i64.wrap (t4 * t4)).tmod 8380417), (IntKind.i64.wrap (t5.tdiv 2))))
    else
      some (.inr t3)

noncomputable def annr36_0 : Ann := .none
noncomputable def Fr36 : Int → Option (Int)
  | a0 =>
    (loopO stepr36_0 (1, 1753, a0)).bind fun z1 =>
      some z1

noncomputable def annr36 : Ann := (.seq .none (.seq .none (.seq .none (.seq (.seq .none (.seq (.cut (cutEnt lr36_0 or36_0 (loopO stepr36_0))) .none)) .none))))
abbrev Sr36 : FSh := ⟨[.val (.c (.int .i64))], [.val (.c (.int .i64))], [.tmp 2]⟩
noncomputable def cr36 : Ctx Go.Proofs.Try.prog := ⟨rtab, ofL Er37, rtabOk, Er37_ok, rdep, rord⟩
theorem eqr36_0 : ∀ s : lr36_0.T, exec rtab (ofL Er37) 23 (Code.at' [1, 1, 1, 0, 1, 0, 0] bodyr36) annr36_0 (fun e st => loopEnd (l := lr36_0) (outs := or36_0) e st) (lr36_0.enc s) = stepr36_0 s := by
  rintro ⟨t3, t4, t5⟩
  kernel_rfl
theorem okr36_0 : LOk Go.Proofs.Try.prog 23 (cutEnt lr36_0 or36_0 (loopO stepr36_0)) (Code.at' [1, 1, 1, 0, 1, 0] bodyr36) := by
  have e : Code.at' [1, 1, 1, 0, 1, 0] bodyr36 = .loop (Code.at' [1, 1, 1, 0, 1, 0, 0] bodyr36) := by kernel_rfl
  rw [e]
  refine loop_ok cr36 23 rfl rfl (annOk_of_cuts ?_) eqr36_0
  intro x hx
  exact absurd hx (by show x ∉ ([] : List (List Nat × LEnt)); simp)

theorem eqr36 : ∀ x : psT Sr36.ps, exec rtab (ofL Er37) 23 bodyr36 annr36 (fin rtab Sr36) (argSt Sr36 x) = Fr36 x := by
  intro x
  kernel_rfl
theorem callsr36 : CallsAs Go.Proofs.Try.prog cr36 36 Sr36 Fr36 := by
  refine fun_calls (fn := Go.Proofs.Try.f36) (c := bodyr36) (ann := annr36) cr36 (by kernel_rfl) (by kernel_rfl) (by kernel_rfl) (by decide) (annOk_of_cuts ?_) eqr36
  have hc : Ann.cuts annr36 = [([1, 1, 1, 0, 1, 0], (cutEnt lr36_0 or36_0 (loopO stepr36_0)))] := by kernel_rfl
  rw [hc]
  intro x hx
  simp only [List.mem_cons, List.not_mem_nil, or_false] at hx
  rcases hx with rfl
  · have e : Code.at' [1, 1, 1, 0, 1, 0] bodyr36 = Code.at' [1, 1, 1, 0, 1, 0] bodyr36 := by kernel_rfl
    rw [e]; exact okr36_0

theorem entr36 : EntOk Go.Proofs.Try.prog 36 (funEnt Sr36 Fr36) := fun_ok cr36 (fn := Go.Proofs.Try.f36) (c := bodyr36) (by kernel_rfl) (by kernel_rfl) (by kernel_rfl) rfl rfl (by decide) callsr36
noncomputable def Er36 : List (Nat × Ent) := (36, funEnt Sr36 Fr36) :: Er37
theorem Er36_ok : EntsOk Go.Proofs.Try.prog (ofL Er36) := .cons entr36 Er37_ok

/-! ### barbican/barbicanref08.NTT -/
noncomputable def bodyr12 : Code := (Go.Proofs.Try.f12.body).getD .skip
abbrev lr12_1 : Lay := ⟨[(1, .ptr 1 0 256), (2, .ptr 2 0 256), (3, .ptr 3 0 256)], [.env 4 (.c (.int .i64)), .env 5 (.c (.int .i64)), .env 6 (.c (.int .i64)), .env 7 (.c (.int .i64)), .reg 1 (.cells [.ints .i32 256]), .reg 2 (.cells [.ints .i32 256]), .reg 3 (.cells [.ints .i32 256])], [(1, 1), (2, 2), (3, 3)]⟩
abbrev or12_1 : List (AExit × Lay) := [(.exit 2, ⟨[(1, .ptr 1 0 256), (2, .ptr 2 0 256), (3, .ptr 3 0 256)], [.env 4 (.c (.int .i64)), .env 6 (.c (.int .i64)), .reg 1 (.cells [.ints .i32 256]), .reg 2 (.cells [.ints .i32 256]), .reg 3 (.cells [.ints .i32 256])], [(1, 1), (2, 2), (3, 3)]⟩)]
noncomputable def stepr12_1 : Int × Int × Int × Int × (Nat → Int) × (Nat → Int) × (Nat → Int) → Option ((Int × Int × Int × Int × (Nat → Int) × (Nat → Int) × (Nat → Int)) ⊕ ((Int × Int × (Nat → Int) × (Nat → Int) × (Nat → Int))))
  | (t4, t5, t6, t7, r1, r2, r3) =>
    if (decide (t7 ≥ 0)) = true then
      if (0 : Int) ≤ t7 ∧ t7 < ((256 : Int) : Int) then
        let x3 : Int := (IntKind.i64.wrap ((IntKind.i64.wrap (t6 * t5)) + (IntKind.i64.wrap (r1 t7.toNat))))
        some (.inl (t4, t5, (x3.tmod 8380417), (IntKind.i64.wrap (t7 - 1)), r1, r2, r3))
      else none
    else
      some (.inr (t4, t6, r1, r2, r3))

noncomputable def annr12_1 : Ann := .none
abbrev lr12_0 : Lay := ⟨[(1, .ptr 1 0 256), (2, .ptr 2 0 256), (3, .ptr 3 0 256)], [.env 4 (.c (.int .i64)), .reg 1 (.cells [.ints .i32 256]), .reg 2 (.cells [.ints .i32 256]), .reg 3 (.cells [.ints .i32 256])], [(1, 1), (2, 2), (3, 3)]⟩
abbrev or12_0 : List (AExit × Lay) := [(.exit 0, ⟨[(2, .ptr 2 0 256), (3, .ptr 3 0 256)], [.reg 2 (.cells [.ints .i32 256]), .reg 3 (.cells [.ints .i32 256])], [(2, 2), (3, 3)]⟩)]
noncomputable def stepr12_0 : Int × (Nat → Int) × (Nat → Int) × (Nat → Int) → Option ((Int × (Nat → Int) × (Nat → Int) × (Nat → Int)) ⊕ (((Nat → Int) × (Nat → Int))))
  | (t4, r1, r2, r3) =>
    if (decide (t4 < 256)) = true then
      (Fr37 t4).bind fun y1 =>
        (Fr36 (IntKind.i64.wrap ((IntKind.i64.wrap (2 * y1)) + 1))).bind fun y2 =>
          (loopO stepr12_1 (t4, y2, 0, 255, r1, r2, r3)).bind fun (z4, z5, z6, z7, z8) =>
            if (0 : Int) ≤ z4 ∧ z4 < ((256 : Int) : Int) then
              some (.inl ((IntKind.i64.wrap (z4 + 1)), z6, z7, (upd z8 z4.toNat (IntKind.i32.wrap z5))))
            else none
    else
      some (.inr (r2, r3))

noncomputable def annr12_0 : Ann := (.seq .none (.seq (.seq (.seq .none (.seq .none (.seq (.seq .none (.seq (.cut (cutEnt lr12_1 or12_1 (loopO stepr12_1))) .none)) .none))) .none) .none))
noncomputable def Fr12 : (Nat → Int) → Option ((Nat → Int))
  | a0 =>
    (loopO stepr12_0 (0, a0, (fun _ => 0), (fun _ => 0))).bind fun (z9, z10) =>
      some z10

noncomputable def annr12 : Ann := (.seq .none (.seq .none (.seq (.seq .none (.seq (.cut (cutEnt lr12_0 or12_0 (loopO stepr12_0))) .none)) .none)))
abbrev Sr12 : FSh := ⟨[.val (.agg [.ints .i32 256])], [.val (.agg [.ints .i32 256])], [.cell 2 23]⟩
noncomputable def cr12 : Ctx Go.Proofs.Try.prog := ⟨rtab, ofL Er36, rtabOk, Er36_ok, rdep, rord⟩
theorem eqr12_1 : ∀ s : lr12_1.T, exec rtab (ofL Er36) 35 (Code.at' [1, 1, 0, 1, 0, 0, 1, 0, 0, 1, 1, 0, 1, 0, 0] bodyr12) annr12_1 (fun e st => loopEnd (l := lr12_1) (outs := or12_1) e st) (lr12_1.enc s) = stepr12_1 s := by
  rintro ⟨t4, t5, t6, t7, r1, r2, r3⟩
  kernel_rfl
theorem okr12_1 : LOk Go.Proofs.Try.prog 35 (cutEnt lr12_1 or12_1 (loopO stepr12_1)) (Code.at' [1, 1, 0, 1, 0, 0, 1, 0, 0, 1, 1, 0, 1, 0] bodyr12) := by
  have e : Code.at' [1, 1, 0, 1, 0, 0, 1, 0, 0, 1, 1, 0, 1, 0] bodyr12 = .loop (Code.at' [1, 1, 0, 1, 0, 0, 1, 0, 0, 1, 1, 0, 1, 0, 0] bodyr12) := by kernel_rfl
  rw [e]
  refine loop_ok cr12 35 rfl rfl (annOk_of_cuts ?_) eqr12_1
  intro x hx
  exact absurd hx (by show x ∉ ([] : List (List Nat × LEnt)); simp)

theorem eqr12_0 : ∀ s : lr12_0.T, exec rtab (ofL Er36) 35 (Code.at' [1, 1, 0, 1, 0, 0] bodyr12) annr12_0 (fun e st => loopEnd (l := lr12_0) (outs := or12_0) e st) (lr12_0.enc s) = stepr12_0 s := by
  rintro ⟨t4, r1, r2, r3⟩
  kernel_rfl
theorem okr12_0 : LOk Go.Proofs.Try.prog 35 (cutEnt lr12_0 or12_0 (loopO stepr12_0)) (Code.at' [1, 1, 0, 1, 0] bodyr12) := by
  have e : Code.at' [1, 1, 0, 1, 0] bodyr12 = .loop (Code.at' [1, 1, 0, 1, 0, 0] bodyr12) := by kernel_rfl
  rw [e]
  refine loop_ok cr12 35 rfl rfl (annOk_of_cuts ?_) eqr12_0
  have hc : Ann.cuts annr12_0 = [([1, 0, 0, 1, 1, 0, 1, 0], (cutEnt lr12_1 or12_1 (loopO stepr12_1)))] := by kernel_rfl
  rw [hc]
  intro x hx
  simp only [List.mem_cons, List.not_mem_nil, or_false] at hx
  rcases hx with rfl
  · have e : Code.at' [1, 0, 0, 1, 1, 0, 1, 0] (Code.at' [1, 1, 0, 1, 0, 0] bodyr12) = Code.at' [1, 1, 0, 1, 0, 0, 1, 0, 0, 1, 1, 0, 1, 0] bodyr12 := by kernel_rfl
    rw [e]; exact okr12_1

theorem eqr12 : ∀ x : psT Sr12.ps, exec rtab (ofL Er36) 35 bodyr12 annr12 (fin rtab Sr12) (argSt Sr12 x) = Fr12 x := by
  intro x
  kernel_rfl
theorem callsr12 : CallsAs Go.Proofs.Try.prog cr12 12 Sr12 Fr12 := by
  refine fun_calls (fn := Go.Proofs.Try.f12) (c := bodyr12) (ann := annr12) cr12 (by kernel_rfl) (by kernel_rfl) (by kernel_rfl) (by decide) (annOk_of_cuts ?_) eqr12
  have hc : Ann.cuts annr12 = [([1, 1, 0, 1, 0], (cutEnt lr12_0 or12_0 (loopO stepr12_0)))] := by kernel_rfl
  rw [hc]
  intro x hx
  simp only [List.mem_cons, List.not_mem_nil, or_false] at hx
  rcases hx with rfl
  · have e : Code.at' [1, 1, 0, 1, 0] bodyr12 = Code.at' [1, 1, 0, 1, 0] bodyr12 := by kernel_rfl
    rw [e]; exact okr12_0

theorem entr12 : EntOk Go.Proofs.Try.prog 12 (funEnt Sr12 Fr12) := fun_ok cr12 (fn := Go.Proofs.Try.f12) (c := bodyr12) (by kernel_rfl) (by kernel_rfl) (by kernel_rfl) rfl rfl (by decide) callsr12
noncomputable def Er12 : List (Nat × Ent) := (12, funEnt Sr12 Fr12) :: Er36
theorem Er12_ok : EntsOk Go.Proofs.Try.prog (ofL Er12) := .cons entr12 Er36_ok

/-! ### barbican/barbicanlaw08.RingValues -/
noncomputable def bodyr3 : Code := (Go.Proofs.Try.f3.body).getD .skip
noncomputable def Fr3 : (Nat → Int) → Option (Bool)
  | a0 =>
    (Fr8 ()).bind fun y1 =>
      (Fr9 a0).bind fun (y2, y3) =>
        (Fr10 a0).bind fun (y4, y5) =>
          (Fr11 a0).bind fun y6 =>
            if (!y6) = true then
              if y1 = true then
                if (y3 == 81) = true then
                  if (y5 == y3) = true then
                    if (arrEq 256 y2 (fun _ => 0)) = true then
                      some (arrEq 256 y4 (fun _ => 0))
                    else
                      some false
                  else
                    some false
                else
                  some false
              else
                some false
            else
              if y1 = true then
                if (y3 == 0) = true then
                  if (y5 == 0) = true then
                    (Fr12 a0).bind fun y7 =>
                      if (arrEq 256 y2 y7) = true then
                        (Fr12 y4).bind fun y8 =>
                          some (arrEq 256 y8 a0)
                      else
                        some false
                  else
                    some false
                else
                  some false
              else
                some false

noncomputable def annr3 : Ann := .none
abbrev Sr3 : FSh := ⟨[.val (.agg [.ints .i32 256])], [.val (.c (.bool))], [.tmp 2]⟩
noncomputable def cr3 : Ctx Go.Proofs.Try.prog := ⟨rtab, ofL Er12, rtabOk, Er12_ok, rdep, rord⟩
theorem eqr3 : ∀ x : psT Sr3.ps, exec rtab (ofL Er12) 67 bodyr3 annr3 (fin rtab Sr3) (argSt Sr3 x) = Fr3 x := by
  intro x
  kernel_rfl
theorem callsr3 : CallsAs Go.Proofs.Try.prog cr3 3 Sr3 Fr3 := by
  refine fun_calls (fn := Go.Proofs.Try.f3) (c := bodyr3) (ann := annr3) cr3 (by kernel_rfl) (by kernel_rfl) (by kernel_rfl) (by decide) (annOk_of_cuts ?_) eqr3
  intro x hx
  exact absurd hx (by show x ∉ ([] : List (List Nat × LEnt)); simp)

theorem entr3 : EntOk Go.Proofs.Try.prog 3 (funEnt Sr3 Fr3) := fun_ok cr3 (fn := Go.Proofs.Try.f3) (c := bodyr3) (by kernel_rfl) (by kernel_rfl) (by kernel_rfl) rfl rfl (by decide) callsr3
noncomputable def Er3 : List (Nat × Ent) := (3, funEnt Sr3 Fr3) :: Er12
theorem Er3_ok : EntsOk Go.Proofs.Try.prog (ofL Er3) := .cons entr3 Er12_ok

/-! ### barbican/ring.Power2Round -/
noncomputable def bodyr13 : Code := (Go.Proofs.Try.f13.body).getD .skip
noncomputable def Fr13 : Int → Option (Int × Int × Int)
  | a0 =>
    if (decide (a0 < 0)) = false then
      if (decide (a0 ≥ 8380417)) = true then
        some (0, 0, 81)
      else
        (Fr38 (a0, 8192)).bind fun y1 =>
          some ((shrI .i32 (IntKind.i32.wrap (a0 - y1)) 13), y1, 0)
    else
      some (0, 0, 81)

noncomputable def annr13 : Ann := .none
abbrev Sr13 : FSh := ⟨[.val (.c (.int .i32))], [.val (.c (.int .i32)), .val (.c (.int .i32)), .val (.c (.int .i64))], [.tmp 2, .tmp 3, .tmp 4]⟩
noncomputable def cr13 : Ctx Go.Proofs.Try.prog := ⟨rtab, ofL Er3, rtabOk, Er3_ok, rdep, rord⟩
theorem eqr13 : ∀ x : psT Sr13.ps, exec rtab (ofL Er3) 19 bodyr13 annr13 (fin rtab Sr13) (argSt Sr13 x) = Fr13 x := by
  intro x
  kernel_rfl
theorem callsr13 : CallsAs Go.Proofs.Try.prog cr13 13 Sr13 Fr13 := by
  refine fun_calls (fn := Go.Proofs.Try.f13) (c := bodyr13) (ann := annr13) cr13 (by kernel_rfl) (by kernel_rfl) (by kernel_rfl) (by decide) (annOk_of_cuts ?_) eqr13
  intro x hx
  exact absurd hx (by show x ∉ ([] : List (List Nat × LEnt)); simp)

theorem entr13 : EntOk Go.Proofs.Try.prog 13 (funEnt Sr13 Fr13) := fun_ok cr13 (fn := Go.Proofs.Try.f13) (c := bodyr13) (by kernel_rfl) (by kernel_rfl) (by kernel_rfl) rfl rfl (by decide) callsr13
noncomputable def Er13 : List (Nat × Ent) := (13, funEnt Sr13 Fr13) :: Er3
theorem Er13_ok : EntsOk Go.Proofs.Try.prog (ofL Er13) := .cons entr13 Er3_ok

/-! ### barbican/ring.UseHint -/
noncomputable def bodyr15 : Code := (Go.Proofs.Try.f15.body).getD .skip
noncomputable def Fr15 : Bool × Int → Option (Int × Int)
  | (a0, a1) =>
    (Fr14 a1).bind fun (y1, y2, y3) =>
      if (y3 != 0) = false then
        if (!a0) = true then
          some (y1, y3)
        else
          if (decide (y2 > 0)) = true then
            some (((IntKind.i32.wrap (y1 + 1)).tmod 16), 0)
          else
            let x4 : Int := ((IntKind.i32.wrap ((IntKind.i32.wrap (y1 + 16)) - 1)).tmod 16)
            some (x4, 0)
      else
        some (y1, y3)

noncomputable def annr15 : Ann := .none
abbrev Sr15 : FSh := ⟨[.val (.c (.bool)), .val (.c (.int .i32))], [.val (.c (.int .i32)), .val (.c (.int .i64))], [.tmp 4, .tmp 5]⟩
noncomputable def cr15 : Ctx Go.Proofs.Try.prog := ⟨rtab, ofL Er13, rtabOk, Er13_ok, rdep, rord⟩
theorem eqr15 : ∀ x : psT Sr15.ps, exec rtab (ofL Er13) 34 bodyr15 annr15 (fin rtab Sr15) (argSt Sr15 x) = Fr15 x := by
  rintro ⟨a0, a1⟩
  kernel_rfl
theorem callsr15 : CallsAs Go.Proofs.Try.prog cr15 15 Sr15 Fr15 := by
  refine fun_calls (fn := Go.Proofs.Try.f15) (c := bodyr15) (ann := annr15) cr15 (by kernel_rfl) (by kernel_rfl) (by kernel_rfl) (by decide) (annOk_of_cuts ?_) eqr15
  intro x hx
  exact absurd hx (by show x ∉ ([] : List (List Nat × LEnt)); simp)

theorem entr15 : EntOk Go.Proofs.Try.prog 15 (funEnt Sr15 Fr15) := fun_ok cr15 (fn := Go.Proofs.Try.f15) (c := bodyr15) (by kernel_rfl) (by kernel_rfl) (by kernel_rfl) rfl rfl (by decide) callsr15
noncomputable def Er15 : List (Nat × Ent) := (15, funEnt Sr15 Fr15) :: Er13
theorem Er15_ok : EntsOk Go.Proofs.Try.prog (ofL Er15) := .cons entr15 Er13_ok

/-! ### barbican/ring.MakeHint -/
noncomputable def bodyr16 : Code := (Go.Proofs.Try.f16.body).getD .skip
noncomputable def Fr16 : Int × Int → Option (Bool × Int)
  | (a0, a1) =>
    if (decide (a0 < 0)) = false then
      if (decide (a0 ≥ 8380417)) = true then
        some (false, 81)
      else
        (Fr14 a1).bind fun (y1, y2, y3) =>
          if (y3 != 0) = true then
            some (false, y3)
          else
            let x4 : Int := (IntKind.i64.wrap ((IntKind.i64.wrap a1) + (IntKind.i64.wrap a0)))
            (Fr35 x4).bind fun y5 =>
              (Fr14 y5).bind fun (y6, y7, y8) =>
                some ((y1 != y6), 0)
    else
      some (false, 81)

noncomputable def annr16 : Ann := .none
abbrev Sr16 : FSh := ⟨[.val (.c (.int .i32)), .val (.c (.int .i32))], [.val (.c (.bool)), .val (.c (.int .i64))], [.tmp 4, .tmp 5]⟩
noncomputable def cr16 : Ctx Go.Proofs.Try.prog := ⟨rtab, ofL Er15, rtabOk, Er15_ok, rdep, rord⟩
theorem eqr16 : ∀ x : psT Sr16.ps, exec rtab (ofL Er15) 41 bodyr16 annr16 (fin rtab Sr16) (argSt Sr16 x) = Fr16 x := by
  rintro ⟨a0, a1⟩
  kernel_rfl
theorem callsr16 : CallsAs Go.Proofs.Try.prog cr16 16 Sr16 Fr16 := by
  refine fun_calls (fn := Go.Proofs.Try.f16) (c := bodyr16) (ann := annr16) cr16 (by kernel_rfl) (by kernel_rfl) (by kernel_rfl) (by decide) (annOk_of_cuts ?_) eqr16
  intro x hx
  exact absurd hx (by show x ∉ ([] : List (List Nat × LEnt)); simp)

theorem entr16 : EntOk Go.Proofs.Try.prog 16 (funEnt Sr16 Fr16) := fun_ok cr16 (fn := Go.Proofs.Try.f16) (c := bodyr16) (by kernel_rfl) (by kernel_rfl) (by kernel_rfl) rfl rfl (by decide) callsr16
noncomputable def Er16 : List (Nat × Ent) := (16, funEnt Sr16 Fr16) :: Er15
theorem Er16_ok : EntsOk Go.Proofs.Try.prog (ofL Er16) := .cons entr16 Er15_ok

/-! ### barbican/barbicanref08.Power2Round -/
noncomputable def bodyr17 : Code := (Go.Proofs.Try.f17.body).getD .skip
noncomputable def Fr17 : Int → Option (Int × Int)
  | a0 =>
    let x1 : Int := (IntKind.i32.wrap ((IntKind.i32.wrap (a0 + 4095)).tdiv 8192))
    some (x1, (IntKind.i32.wrap (a0 - (IntKind.i32.wrap (8192 * x1)))))

noncomputable def annr17 : Ann := .none
abbrev Sr17 : FSh := ⟨[.val (.c (.int .i32))], [.val (.c (.int .i32)), .val (.c (.int .i32))], [.tmp 2, .tmp 3]⟩
noncomputable def cr17 : Ctx Go.Proofs.Try.prog := ⟨rtab, ofL Er16, rtabOk, Er16_ok, rdep, rord⟩
theorem eqr17 : ∀ x : psT Sr17.ps, exec rtab (ofL Er16) 13 bodyr17 annr17 (fin rtab Sr17) (argSt Sr17 x) = Fr17 x := by
  intro x
  kernel_rfl
theorem callsr17 : CallsAs Go.Proofs.Try.prog cr17 17 Sr17 Fr17 := by
  refine fun_calls (fn := Go.Proofs.Try.f17) (c := bodyr17) (ann := annr17) cr17 (by kernel_rfl) (by kernel_rfl) (by kernel_rfl) (by decide) (annOk_of_cuts ?_) eqr17
  intro x hx
  exact absurd hx (by show x ∉ ([] : List (List Nat × LEnt)); simp)

theorem entr17 : EntOk Go.Proofs.Try.prog 17 (funEnt Sr17 Fr17) := fun_ok cr17 (fn := Go.Proofs.Try.f17) (c := bodyr17) (by kernel_rfl) (by kernel_rfl) (by kernel_rfl) rfl rfl (by decide) callsr17
noncomputable def Er17 : List (Nat × Ent) := (17, funEnt Sr17 Fr17) :: Er16
theorem Er17_ok : EntsOk Go.Proofs.Try.prog (ofL Er17) := .cons entr17 Er16_ok

/-! ### barbican/barbicanref08.Decompose -/
noncomputable def bodyr18 : Code := (Go.Proofs.Try.f18.body).getD .skip
noncomputable def Fr18 : Int → Option (Int × Int)
  | a0 =>
    let x1 : Int := (IntKind.i32.wrap ((IntKind.i32.wrap (a0 + 261887)).tdiv 523776))
    if (x1 == 16) = true then
      let x2 : Int := (IntKind.i32.wrap ((IntKind.i32.wrap (a0 - (IntKind.i32.wrap (523776 * x1)))) - 1))
      some (0, x2)
    else
      some (x1, (IntKind.i32.wrap (a0 - (IntKind.i32.wrap (523776 * x1)))))

noncomputable def annr18 : Ann := .none
abbrev Sr18 : FSh := ⟨[.val (.c (.int .i32))], [.val (.c (.int .i32)), .val (.c (.int .i32))], [.tmp 2, .tmp 3]⟩
noncomputable def cr18 : Ctx Go.Proofs.Try.prog := ⟨rtab, ofL Er17, rtabOk, Er17_ok, rdep, rord⟩
theorem eqr18 : ∀ x : psT Sr18.ps, exec rtab (ofL Er17) 19 bodyr18 annr18 (fin rtab Sr18) (argSt Sr18 x) = Fr18 x := by
  intro x
  kernel_rfl
theorem callsr18 : CallsAs Go.Proofs.Try.prog cr18 18 Sr18 Fr18 := by
  refine fun_calls (fn := Go.Proofs.Try.f18) (c := bodyr18) (ann := annr18) cr18 (by kernel_rfl) (by kernel_rfl) (by kernel_rfl) (by decide) (annOk_of_cuts ?_) eqr18
  intro x hx
  exact absurd hx (by show x ∉ ([] : List (List Nat × LEnt)); simp)

theorem entr18 : EntOk Go.Proofs.Try.prog 18 (funEnt Sr18 Fr18) := fun_ok cr18 (fn := Go.Proofs.Try.f18) (c := bodyr18) (by kernel_rfl) (by kernel_rfl) (by kernel_rfl) rfl rfl (by decide) callsr18
noncomputable def Er18 : List (Nat × Ent) := (18, funEnt Sr18 Fr18) :: Er17
theorem Er18_ok : EntsOk Go.Proofs.Try.prog (ofL Er18) := .cons entr18 Er17_ok

/-! ### barbican/barbicanref08.UseHint -/
noncomputable def bodyr19 : Code := (Go.Proofs.Try.f19.body).getD .skip
noncomputable def Fr19 : Bool × Int → Option (Int)
  | (a0, a1) =>
    (Fr18 a1).bind fun (y1, y2) =>
      if (!a0) = true then
        some y1
      else
        if (decide (y2 > 0)) = true then
          some ((IntKind.i32.wrap (y1 + 1)).tmod 16)
        else
          some ((IntKind.i32.wrap (y1 + 15)).tmod 16)

noncomputable def annr19 : Ann := .none
abbrev Sr19 : FSh := ⟨[.val (.c (.bool)), .val (.c (.int .i32))], [.val (.c (.int .i32))], [.tmp 4]⟩
noncomputable def cr19 : Ctx Go.Proofs.Try.prog := ⟨rtab, ofL Er18, rtabOk, Er18_ok, rdep, rord⟩
theorem eqr19 : ∀ x : psT Sr19.ps, exec rtab (ofL Er18) 23 bodyr19 annr19 (fin rtab Sr19) (argSt Sr19 x) = Fr19 x := by
  rintro ⟨a0, a1⟩
  kernel_rfl
theorem callsr19 : CallsAs Go.Proofs.Try.prog cr19 19 Sr19 Fr19 := by
  refine fun_calls (fn := Go.Proofs.Try.f19) (c := bodyr19) (ann := annr19) cr19 (by kernel_rfl) (by kernel_rfl) (by kernel_rfl) (by decide) (annOk_of_cuts ?_) eqr19
  intro x hx
  exact absurd hx (by show x ∉ ([] : List (List Nat × LEnt)); simp)

theorem entr19 : EntOk Go.Proofs.Try.prog 19 (funEnt Sr19 Fr19) := fun_ok cr19 (fn := Go.Proofs.Try.f19) (c := bodyr19) (by kernel_rfl) (by kernel_rfl) (by kernel_rfl) rfl rfl (by decide) callsr19
noncomputable def Er19 : List (Nat × Ent) := (19, funEnt Sr19 Fr19) :: Er18
theorem Er19_ok : EntsOk Go.Proofs.Try.prog (ofL Er19) := .cons entr19 Er18_ok

/-! ### barbican/barbicanref08.Mod -/
noncomputable def bodyr20 : Code := (Go.Proofs.Try.f20.body).getD .skip
noncomputable def Fr20 : Int → Option (Int)
  | a0 =>
    if (decide ((a0.tmod 8380417) < 0)) = true then
      let x1 : Int := (IntKind.i32.wrap (IntKind.i64.wrap ((a0.tmod 8380417) + 8380417)))
      some x1
    else
      some (IntKind.i32.wrap (a0.tmod 8380417))

noncomputable def annr20 : Ann := .none
abbrev Sr20 : FSh := ⟨[.val (.c (.int .i64))], [.val (.c (.int .i32))], [.tmp 2]⟩
noncomputable def cr20 : Ctx Go.Proofs.Try.prog := ⟨rtab, ofL Er19, rtabOk, Er19_ok, rdep, rord⟩
theorem eqr20 : ∀ x : psT Sr20.ps, exec rtab (ofL Er19) 11 bodyr20 annr20 (fin rtab Sr20) (argSt Sr20 x) = Fr20 x := by
  intro x
  kernel_rfl
theorem callsr20 : CallsAs Go.Proofs.Try.prog cr20 20 Sr20 Fr20 := by
  refine fun_calls (fn := Go.Proofs.Try.f20) (c := bodyr20) (ann := annr20) cr20 (by kernel_rfl) (by kernel_rfl) (by kernel_rfl) (by decide) (annOk_of_cuts ?_) eqr20
  intro x hx
  exact absurd hx (by show x ∉ ([] : List (List Nat × LEnt)); simp)

theorem entr20 : EntOk Go.Proofs.Try.prog 20 (funEnt Sr20 Fr20) := fun_ok cr20 (fn := Go.Proofs.Try.f20) (c := bodyr20) (by kernel_rfl) (by kernel_rfl) (by kernel_rfl) rfl rfl (by decide) callsr20
noncomputable def Er20 : List (Nat × Ent) := (20, funEnt Sr20 Fr20) :: Er19
theorem Er20_ok : EntsOk Go.Proofs.Try.prog (ofL Er20) := .cons entr20 Er19_ok

/-! ### barbican/barbicanlaw08.RingParts -/
noncomputable def bodyr4 : Code := (Go.Proofs.Try.f4.body).getD .skip
noncomputable def Fr4 : Int × Int × Bool → Option (Bool)
  | (a0, a1, a2) =>
    (Fr8 ()).bind fun y1 =>
      (Fr13 a0).bind fun (y2, y3, y4) =>
        (Fr14 a0).bind fun (y5, y6, y7) =>
          (Fr15 (a2, a0)).bind fun (y8, y9) =>
            (Fr16 (a1, a0)).bind fun (y10, y11) =>
              if (decide (a0 ≥ 0)) = true then
                if (!(decide (a0 < 8380417))) = true then
                  if y1 = true then
                    if (y4 == 81) = true then
                      if (y7 == y4) = true then
                        if (y9 == y4) = true then
                          if (y11 == y4) = true then
                            if (y2 == 0) = true then
                              if (y3 == 0) = true then
                                if (y5 == 0) = true then
                                  if (y6 == 0) = true then
                                    if (y8 == 0) = true then
                                      some (!y10)
                                    else
                                      some false
                                  else
                                    some false
                                else
                                  some false
                              else
                                some false
                            else
                              some false
                          else
                            some false
                        else
                          some false
                      else
                        some false
                    else
                      some false
                  else
                    some false
                else
                  (Fr17 a0).bind fun (y12, y13) =>
                    (Fr18 a0).bind fun (y14, y15) =>
                      if (!y1) = false then
                        if (y4 != 0) = false then
                          if (y7 != y4) = false then
                            if (y9 != y4) = false then
                              if (y2 != y12) = false then
                                if (y3 != y13) = false then
                                  if (y5 != y14) = false then
                                    if (y6 != y15) = false then
                                      (Fr19 (a2, a0)).bind fun y16 =>
                                        if (y8 != y16) = true then
                                          some false
                                        else
                                          if (decide (a1 < 0)) = false then
                                            if (decide (a1 ≥ 8380417)) = true then
                                              if (y11 == 81) = true then
                                                some (!y10)
                                              else
                                                some false
                                            else
                                              let x17 : Int := (IntKind.i64.wrap ((IntKind.i64.wrap a0) + (IntKind.i64.wrap a1)))
                                              (Fr20 x17).bind fun y18 =>
                                                (Fr18 y18).bind fun (y19, y20) =>
                                                  if (y11 == 0) = true then
                                                    some (y10 == (y19 != y14))
                                                  else
                                                    some false
                                          else
                                            if (y11 == 81) = true then
                                              some (!y10)
                                            else
                                              some false
                                    else
                                      some false
                                  else
                                    some false
                                else
                                  some false
                              else
                                some false
                            else
                              some false
                          else
                            some false
                        else
                          some false
                      else
                        some false
              else
                if y1 = true then
                  if (y4 == 81) = true then
                    if (y7 == y4) = true then
                      if (y9 == y4) = true then
                        if (y11 == y4) = true then
                          if (y2 == 0) = true then
                            if (y3 == 0) = true then
                              if (y5 == 0) = true then
                                if (y6 == 0) = true then
                                  if (y8 == 0) = true then
                                    some (!y10)
                                  else
                                    some false
                                else
                                  some false
                              else
                                some false
                            else
                              some false
                          else
                            some false
                        else
                          some false
                      else
                        some false
                    else
                      some false
                  else
                    some false
                else
                  some false

noncomputable def annr4 : Ann := .none
abbrev Sr4 : FSh := ⟨[.val (.c (.int .i32)), .val (.c (.int .i32)), .val (.c (.bool))], [.val (.c (.bool))], [.tmp 6]⟩
noncomputable def cr4 : Ctx Go.Proofs.Try.prog := ⟨rtab, ofL Er20, rtabOk, Er20_ok, rdep, rord⟩
theorem eqr4 : ∀ x : psT Sr4.ps, exec rtab (ofL Er20) 186 bodyr4 annr4 (fin rtab Sr4) (argSt Sr4 x) = Fr4 x := by
  rintro ⟨a0, a1, a2⟩
  kernel_rfl
theorem callsr4 : CallsAs Go.Proofs.Try.prog cr4 4 Sr4 Fr4 := by
  refine fun_calls (fn := Go.Proofs.Try.f4) (c := bodyr4) (ann := annr4) cr4 (by kernel_rfl) (by kernel_rfl) (by kernel_rfl) (by decide) (annOk_of_cuts ?_) eqr4
  intro x hx
  exact absurd hx (by show x ∉ ([] : List (List Nat × LEnt)); simp)

theorem entr4 : EntOk Go.Proofs.Try.prog 4 (funEnt Sr4 Fr4) := fun_ok cr4 (fn := Go.Proofs.Try.f4) (c := bodyr4) (by kernel_rfl) (by kernel_rfl) (by kernel_rfl) rfl rfl (by decide) callsr4
noncomputable def Er4 : List (Nat × Ent) := (4, funEnt Sr4 Fr4) :: Er20
theorem Er4_ok : EntsOk Go.Proofs.Try.prog (ofL Er4) := .cons entr4 Er20_ok

/-! ### barbican/ring.Reduce -/
noncomputable def bodyr21 : Code := (Go.Proofs.Try.f21.body).getD .skip
abbrev lr21_0 : Lay := ⟨[(1, .ptr 1 0 256), (2, .ptr 2 0 256)], [.env 5 (.agg [.ints .i32 256]), .env 6 (.c (.int .i64)), .reg 1 (.cells [.ints .i32 256]), .reg 2 (.cells [.ints .i32 256])], [(1, 1), (2, 2)]⟩
abbrev or21_0 : List (AExit × Lay) := [(.exit 0, ⟨[(1, .ptr 1 0 256), (2, .ptr 2 0 256)], [.reg 1 (.cells [.ints .i32 256]), .reg 2 (.cells [.ints .i32 256])], [(1, 1), (2, 2)]⟩)]
noncomputable def stepr21_0 : (Nat → Int) × Int × (Nat → Int) × (Nat → Int) → Option (((Nat → Int) × Int × (Nat → Int) × (Nat → Int)) ⊕ (((Nat → Int) × (Nat → Int))))
  | (t5, t6, r1, r2) =>
    if (decide (t6 < 256)) = true then
      if (0 : Int) ≤ t6 ∧ t6 < (256 : Int) then
        (Fr35 (IntKind.i64.wrap (t5 t6.toNat))).bind fun y1 =>
          if (0 : Int) ≤ t6 ∧ t6 < ((256 : Int) : Int) then
            some (.inl (t5, (IntKind.i64.wrap (t6 + 1)), (upd r1 t6.toNat y1), r2))
          else none
      else none
    else
      some (.inr (r1, r2))

noncomputable def annr21_0 : Ann := .none
noncomputable def Fr21 : (Nat → Int) → Option ((Nat → Int))
  | a0 =>
    (loopO stepr21_0 (a0, 0, a0, (fun _ => 0))).bind fun (z2, z3) =>
      some z2

noncomputable def annr21 : Ann := (.seq .none (.seq (.seq .none (.seq (.cut (cutEnt lr21_0 or21_0 (loopO stepr21_0))) .none)) .none))
abbrev Sr21 : FSh := ⟨[.val (.agg [.ints .i32 256])], [.val (.agg [.ints .i32 256])], [.cell 2 23]⟩
noncomputable def cr21 : Ctx Go.Proofs.Try.prog := ⟨rtab, ofL Er4, rtabOk, Er4_ok, rdep, rord⟩
theorem eqr21_0 : ∀ s : lr21_0.T, exec rtab (ofL Er4) 17 (Code.at' [1, 0, 1, 0, 0] bodyr21) annr21_0 (fun e st => loopEnd (l := lr21_0) (outs := or21_0) e st) (lr21_0.enc s) = stepr21_0 s := by
  rintro ⟨t5, t6, r1, r2⟩
  kernel_rfl
theorem okr21_0 : LOk Go.Proofs.Try.prog 17 (cutEnt lr21_0 or21_0 (loopO stepr21_0)) (Code.at' [1, 0, 1, 0] bodyr21) := by
  have e : Code.at' [1, 0, 1, 0] bodyr21 = .loop (Code.at' [1, 0, 1, 0, 0] bodyr21) := by kernel_rfl
  rw [e]
  refine loop_ok cr21 17 rfl rfl (annOk_of_cuts ?_) eqr21_0
  intro x hx
  exact absurd hx (by show x ∉ ([] : List (List Nat × LEnt)); simp)

theorem eqr21 : ∀ x : psT Sr21.ps, exec rtab (ofL Er4) 17 bodyr21 annr21 (fin rtab Sr21) (argSt Sr21 x) = Fr21 x := by
  intro x
  kernel_rfl
theorem callsr21 : CallsAs Go.Proofs.Try.prog cr21 21 Sr21 Fr21 := by
  refine fun_calls (fn := Go.Proofs.Try.f21) (c := bodyr21) (ann := annr21) cr21 (by kernel_rfl) (by kernel_rfl) (by kernel_rfl) (by decide) (annOk_of_cuts ?_) eqr21
  have hc : Ann.cuts annr21 = [([1, 0, 1, 0], (cutEnt lr21_0 or21_0 (loopO stepr21_0)))] := by kernel_rfl
  rw [hc]
  intro x hx
  simp only [List.mem_cons, List.not_mem_nil, or_false] at hx
  rcases hx with rfl
  · have e : Code.at' [1, 0, 1, 0] bodyr21 = Code.at' [1, 0, 1, 0] bodyr21 := by kernel_rfl
    rw [e]; exact okr21_0

theorem entr21 : EntOk Go.Proofs.Try.prog 21 (funEnt Sr21 Fr21) := fun_ok cr21 (fn := Go.Proofs.Try.f21) (c := bodyr21) (by kernel_rfl) (by kernel_rfl) (by kernel_rfl) rfl rfl (by decide) callsr21
noncomputable def Er21 : List (Nat × Ent) := (21, funEnt Sr21 Fr21) :: Er4
theorem Er21_ok : EntsOk Go.Proofs.Try.prog (ofL Er21) := .cons entr21 Er4_ok

/-! ### barbican/ring.Add -/
noncomputable def bodyr22 : Code := (Go.Proofs.Try.f22.body).getD .skip
abbrev lr22_0 : Lay := ⟨[(2, .ptr 2 0 256), (4, .ptr 4 0 256)], [.env 12 (.agg [.ints .i32 256]), .env 13 (.c (.int .i64)), .reg 2 (.cells [.ints .i32 256]), .reg 4 (.cells [.ints .i32 256])], [(2, 2), (4, 4)]⟩
abbrev or22_0 : List (AExit × Lay) := [(.exit 0, ⟨[(2, .ptr 2 0 256), (4, .ptr 4 0 256)], [.reg 2 (.cells [.ints .i32 256]), .reg 4 (.cells [.ints .i32 256])], [(2, 2), (4, 4)]⟩)]
noncomputable def stepr22_0 : (Nat → Int) × Int × (Nat → Int) × (Nat → Int) → Option (((Nat → Int) × Int × (Nat → Int) × (Nat → Int)) ⊕ (((Nat → Int) × (Nat → Int))))
  | (t12, t13, r2, r4) =>
    if (decide (t13 < 256)) = true then
      if (0 : Int) ≤ t13 ∧ t13 < (256 : Int) then
        if (0 : Int) ≤ t13 ∧ t13 < ((256 : Int) : Int) then
          let x2 : Int := (IntKind.i64.wrap ((IntKind.i64.wrap (r2 t13.toNat)) + (IntKind.i64.wrap (t12 t13.toNat))))
          (Fr35 x2).bind fun y3 =>
            if (0 : Int) ≤ t13 ∧ t13 < ((256 : Int) : Int) then
              some (.inl (t12, (IntKind.i64.wrap (t13 + 1)), (upd r2 t13.toNat y3), r4))
            else none
        else none
      else none
    else
      some (.inr (r2, r4))

noncomputable def annr22_0 : Ann := .none
noncomputable def Fr22 : (Nat → Int) × (Nat → Int) → Option ((Nat → Int) × Int)
  | (a0, a1) =>
    (Fr32 [a0, a1]).bind fun y1 =>
      if (!y1) = true then
        some ((fun _ => 0), 81)
      else
        (loopO stepr22_0 (a1, 0, a0, (fun _ => 0))).bind fun (z4, z5) =>
          some (z4, 0)

noncomputable def annr22 : Ann := (.seq .none (.seq .none (.seq (.seq .none (.seq (.cut (cutEnt lr22_0 or22_0 (loopO stepr22_0))) .none)) .none)))
abbrev Sr22 : FSh := ⟨[.val (.agg [.ints .i32 256]), .val (.agg [.ints .i32 256])], [.val (.agg [.ints .i32 256]), .val (.c (.int .i64))], [.cell 4 23, .tmp 5]⟩
noncomputable def cr22 : Ctx Go.Proofs.Try.prog := ⟨rtab, ofL Er21, rtabOk, Er21_ok, rdep, rord⟩
theorem eqr22_0 : ∀ s : lr22_0.T, exec rtab (ofL Er21) 29 (Code.at' [1, 1, 0, 1, 0, 0] bodyr22) annr22_0 (fun e st => loopEnd (l := lr22_0) (outs := or22_0) e st) (lr22_0.enc s) = stepr22_0 s := by
  rintro ⟨t12, t13, r2, r4⟩
  kernel_rfl
theorem okr22_0 : LOk Go.Proofs.Try.prog 29 (cutEnt lr22_0 or22_0 (loopO stepr22_0)) (Code.at' [1, 1, 0, 1, 0] bodyr22) := by
  have e : Code.at' [1, 1, 0, 1, 0] bodyr22 = .loop (Code.at' [1, 1, 0, 1, 0, 0] bodyr22) := by kernel_rfl
  rw [e]
  refine loop_ok cr22 29 rfl rfl (annOk_of_cuts ?_) eqr22_0
  intro x hx
  exact absurd hx (by show x ∉ ([] : List (List Nat × LEnt)); simp)

theorem eqr22 : ∀ x : psT Sr22.ps, exec rtab (ofL Er21) 29 bodyr22 annr22 (fin rtab Sr22) (argSt Sr22 x) = Fr22 x := by
  rintro ⟨a0, a1⟩
  kernel_rfl
theorem callsr22 : CallsAs Go.Proofs.Try.prog cr22 22 Sr22 Fr22 := by
  refine fun_calls (fn := Go.Proofs.Try.f22) (c := bodyr22) (ann := annr22) cr22 (by kernel_rfl) (by kernel_rfl) (by kernel_rfl) (by decide) (annOk_of_cuts ?_) eqr22
  have hc : Ann.cuts annr22 = [([1, 1, 0, 1, 0], (cutEnt lr22_0 or22_0 (loopO stepr22_0)))] := by kernel_rfl
  rw [hc]
  intro x hx
  simp only [List.mem_cons, List.not_mem_nil, or_false] at hx
  rcases hx with rfl
  · have e : Code.at' [1, 1, 0, 1, 0] bodyr22 = Code.at' [1, 1, 0, 1, 0] bodyr22 := by kernel_rfl
    rw [e]; exact okr22_0

theorem entr22 : EntOk Go.Proofs.Try.prog 22 (funEnt Sr22 Fr22) := fun_ok cr22 (fn := Go.Proofs.Try.f22) (c := bodyr22) (by kernel_rfl) (by kernel_rfl) (by kernel_rfl) rfl rfl (by decide) callsr22
noncomputable def Er22 : List (Nat × Ent) := (22, funEnt Sr22 Fr22) :: Er21
theorem Er22_ok : EntsOk Go.Proofs.Try.prog (ofL Er22) := .cons entr22 Er21_ok

/-! ### barbican/barbicanlaw08.RingHints -/
noncomputable def bodyr5 : Code := (Go.Proofs.Try.f5.body).getD .skip
noncomputable def Fr5 : Int × Int → Option (Bool)
  | (a0, a1) =>
    (Fr8 ()).bind fun y1 =>
      (Fr21 (upd (upd (fun _ => 0) 0 a0) 1 a1)).bind fun y2 =>
        (Fr21 (upd (fun _ => 0) 0 (a1.tmod 261889))).bind fun y3 =>
          let f4 : Nat → Int := (upd (upd (fun _ => 0) 0 (IntKind.i32.wrap ((y2 0) - 4000000))) 1 (a1.tmod 261889))
          (Fr21 f4).bind fun y5 =>
            (Fr22 ((upd (fun _ => 0) 0 (y2 0)), (upd (fun _ => 0) 0 (y3 0)))).bind fun (y6, y7) =>
              (Fr16 ((y3 0), (y2 0))).bind fun (y8, y9) =>
                (Fr15 (y8, (y2 0))).bind fun (y10, y11) =>
                  (Fr14 (y6 0)).bind fun (y12, y13, y14) =>
                    (Fr13 (y2 0)).bind fun (y15, y16, y17) =>
                      if (y7 == 0) = true then
                        if (y9 == 0) = true then
                          if (y11 == 0) = true then
                            if (y14 == 0) = true then
                              if (y17 == 0) = true then
                                let x18 : Bool := ((IntKind.i32.wrap ((IntKind.i32.wrap (8192 * y15)) + y16)) == (y2 0))
                                if x18 = true then
                                  if (decide (y16 > (-4096))) = true then
                                    let x19 : Bool := ((IntKind.i32.wrap ((IntKind.i32.wrap (523776 * y12)) + y13)) == (y6 0))
                                    if x19 = false then
                                      if (y12 == 0) = true then
                                        if (decide (y13 < 0)) = true then
                                          if y1 = true then
                                            if ((y5 1) == (y3 0)) = true then
                                              if (y10 == y12) = true then
                                                if (decide (y16 ≤ 4096)) = true then
                                                  if ((IntKind.i32.wrap (y13 + 8380417)) == (y6 0)) = true then
                                                    if (decide (y12 ≥ 0)) = true then
                                                      if (decide (y12 < 16)) = true then
                                                        if (decide (y13 ≥ (-261888))) = true then
                                                          some (decide (y13 ≤ 261888))
                                                        else
                                                          some false
                                                      else
                                                        some false
                                                    else
                                                      some false
                                                  else
                                                    some false
                                                else
                                                  some false
                                              else
                                                some false
                                            else
                                              some false
                                          else
                                            some false
                                        else
                                          if y1 = true then
                                            if ((y5 1) == (y3 0)) = true then
                                              if (y10 == y12) = true then
                                                if (decide (y16 ≤ 4096)) = true then
                                                  some false
                                                else
                                                  some false
                                              else
                                                some false
                                            else
                                              some false
                                          else
                                            some false
                                      else
                                        if y1 = true then
                                          if ((y5 1) == (y3 0)) = true then
                                            if (y10 == y12) = true then
                                              if (decide (y16 ≤ 4096)) = true then
                                                some false
                                              else
                                                some false
                                            else
                                              some false
                                          else
                                            some false
                                        else
                                          some false
                                    else
                                      if y1 = true then
                                        if ((y5 1) == (y3 0)) = true then
                                          if (y10 == y12) = true then
                                            if (decide (y16 ≤ 4096)) = true then
                                              if (decide (y12 ≥ 0)) = true then
                                                if (decide (y12 < 16)) = true then
                                                  if (decide (y13 ≥ (-261888))) = true then
                                                    some (decide (y13 ≤ 261888))
                                                  else
                                                    some false
                                                else
                                                  some false
                                              else
                                                some false
                                            else
                                              some false
                                          else
                                            some false
                                        else
                                          some false
                                      else
                                        some false
                                  else
                                    let x20 : Bool := ((IntKind.i32.wrap ((IntKind.i32.wrap (523776 * y12)) + y13)) == (y6 0))
                                    if x20 = false then
                                      if (y12 == 0) = true then
                                        if (decide (y13 < 0)) = true then
                                          if y1 = true then
                                            if ((y5 1) == (y3 0)) = true then
                                              if (y10 == y12) = true then
                                                some false
                                              else
                                                some false
                                            else
                                              some false
                                          else
                                            some false
                                        else
                                          if y1 = true then
                                            if ((y5 1) == (y3 0)) = true then
                                              if (y10 == y12) = true then
                                                some false
                                              else
                                                some false
                                            else
                                              some false
                                          else
                                            some false
                                      else
                                        if y1 = true then
                                          if ((y5 1) == (y3 0)) = true then
                                            if (y10 == y12) = true then
                                              some false
                                            else
                                              some false
                                          else
                                            some false
                                        else
                                          some false
                                    else
                                      if y1 = true then
                                        if ((y5 1) == (y3 0)) = true then
                                          if (y10 == y12) = true then
                                            some false
                                          else
                                            some false
                                        else
                                          some false
                                      else
                                        some false
                                else
                                  let x21 : Bool := ((IntKind.i32.wrap ((IntKind.i32.wrap (523776 * y12)) + y13)) == (y6 0))
                                  if x21 = false then
                                    if (y12 == 0) = true then
                                      if (decide (y13 < 0)) = true then
                                        if y1 = true then
                                          if ((y5 1) == (y3 0)) = true then
                                            if (y10 == y12) = true then
                                              some false
                                            else
                                              some false
                                          else
                                            some false
                                        else
                                          some false
                                      else
                                        if y1 = true then
                                          if ((y5 1) == (y3 0)) = true then
                                            if (y10 == y12) = true then
                                              some false
                                            else
                                              some false
                                          else
                                            some false
                                        else
                                          some false
                                    else
                                      if y1 = true then
                                        if ((y5 1) == (y3 0)) = true then
                                          if (y10 == y12) = true then
                                            some false
                                          else
                                            some false
                                        else
                                          some false
                                      else
                                        some false
                                  else
                                    if y1 = true then
                                      if ((y5 1) == (y3 0)) = true then
                                        if (y10 == y12) = true then
                                          some false
                                        else
                                          some false
                                      else
                                        some false
                                    else
                                      some false
                              else
                                let x22 : Bool := ((IntKind.i32.wrap ((IntKind.i32.wrap (8192 * y15)) + y16)) == (y2 0))
                                if x22 = true then
                                  if (decide (y16 > (-4096))) = true then
                                    let x23 : Bool := ((IntKind.i32.wrap ((IntKind.i32.wrap (523776 * y12)) + y13)) == (y6 0))
                                    if x23 = false then
                                      if (y12 == 0) = true then
                                        if (decide (y13 < 0)) = true then
                                          if y1 = true then
                                            some false
                                          else
                                            some false
                                        else
                                          if y1 = true then
                                            some false
                                          else
                                            some false
                                      else
                                        if y1 = true then
                                          some false
                                        else
                                          some false
                                    else
                                      if y1 = true then
                                        some false
                                      else
                                        some false
                                  else
                                    let x24 : Bool := ((IntKind.i32.wrap ((IntKind.i32.wrap (523776 * y12)) + y13)) == (y6 0))
                                    if x24 = false then
                                      if (y12 == 0) = true then
                                        if (decide (y13 < 0)) = true then
                                          if y1 = true then
                                            some false
                                          else
                                            some false
                                        else
                                          if y1 = true then
                                            some false
                                          else
                                            some false
                                      else
                                        if y1 = true then
                                          some false
                                        else
                                          some false
                                    else
                                      if y1 = true then
                                        some false
                                      else
                                        some false
                                else
                                  let x25 : Bool := ((IntKind.i32.wrap ((IntKind.i32.wrap (523776 * y12)) + y13)) == (y6 0))
                                  if x25 = false then
                                    if (y12 == 0) = true then
                                      if (decide (y13 < 0)) = true then
                                        if y1 = true then
                                          some false
                                        else
                                          some false
                                      else
                                        if y1 = true then
                                          some false
                                        else
                                          some false
                                    else
                                      if y1 = true then
                                        some false
                                      else
                                        some false
                                  else
                                    if y1 = true then
                                      some false
                                    else
                                      some false
                            else
                              let x26 : Bool := ((IntKind.i32.wrap ((IntKind.i32.wrap (8192 * y15)) + y16)) == (y2 0))
                              if x26 = true then
                                if (decide (y16 > (-4096))) = true then
                                  let x27 : Bool := ((IntKind.i32.wrap ((IntKind.i32.wrap (523776 * y12)) + y13)) == (y6 0))
                                  if x27 = false then
                                    if (y12 == 0) = true then
                                      if (decide (y13 < 0)) = true then
                                        if y1 = true then
                                          some false
                                        else
                                          some false
                                      else
                                        if y1 = true then
                                          some false
                                        else
                                          some false
                                    else
                                      if y1 = true then
                                        some false
                                      else
                                        some false
                                  else
                                    if y1 = true then
                                      some false
                                    else
                                      some false
                                else
                                  let x28 : Bool := ((IntKind.i32.wrap ((IntKind.i32.wrap (523776 * y12)) + y13)) == (y6 0))
                                  if x28 = false then
                                    if (y12 == 0) = true then
                                      if (decide (y13 < 0)) = true then
                                        if y1 = true then
                                          some false
                                        else
                                          some false
                                      else
                                        if y1 = true then
                                          some false
                                        else
                                          some false
                                    else
                                      if y1 = true then
                                        some false
                                      else
                                        some false
                                  else
                                    if y1 = true then
                                      some false
                                    else
                                      some false
                              else
                                let x29 : Bool := ((IntKind.i32.wrap ((IntKind.i32.wrap (523776 * y12)) + y13)) == (y6 0))
                                if x29 = false then
                                  if (y12 == 0) = true then
                                    if (decide (y13 < 0)) = true then
                                      if y1 = true then
                                        some false
                                      else
                                        some false
                                    else
                                      if y1 = true then
                                        some false
                                      else
                                        some false
                                  else
                                    if y1 = true then
                                      some false
                                    else
                                      some false
                                else
                                  if y1 = true then
                                    some false
                                  else
                                    some false
                          else
                            let x30 : Bool := ((IntKind.i32.wrap ((IntKind.i32.wrap (8192 * y15)) + y16)) == (y2 0))
                            if x30 = true then
                              if (decide (y16 > (-4096))) = true then
                                let x31 : Bool := ((IntKind.i32.wrap ((IntKind.i32.wrap (523776 * y12)) + y13)) == (y6 0))
                                if x31 = false then
                                  if (y12 == 0) = true then
                                    if (decide (y13 < 0)) = true then
                                      if y1 = true then
                                        some false
                                      else
                                        some false
                                    else
                                      if y1 = true then
                                        some false
                                      else
                                        some false
                                  else
                                    if y1 = true then
                                      some false
                                    else
                                      some false
                                else
                                  if y1 = true then
                                    some false
                                  else
                                    some false
                              else
                                let x32 : Bool := ((IntKind.i32.wrap ((IntKind.i32.wrap (523776 * y12)) + y13)) == (y6 0))
                                if x32 = false then
                                  if (y12 == 0) = true then
                                    if (decide (y13 < 0)) = true then
                                      if y1 = true then
                                        some false
                                      else
                                        some false
                                    else
                                      if y1 = true then
                                        some false
                                      else
                                        some false
                                  else
                                    if y1 = true then
                                      some false
                                    else
                                      some false
                                else
                                  if y1 = true then
                                    some false
                                  else
                                    some false
                            else
                              let x33 : Bool := ((IntKind.i32.wrap ((IntKind.i32.wrap (523776 * y12)) + y13)) == (y6 0))
                              if x33 = false then
                                if (y12 == 0) = true then
                                  if (decide (y13 < 0)) = true then
                                    if y1 = true then
                                      some false
                                    else
                                      some false
                                  else
                                    if y1 = true then
                                      some false
                                    else
                                      some false
                                else
                                  if y1 = true then
                                    some false
                                  else
                                    some false
                              else
                                if y1 = true then
                                  some false
                                else
                                  some false
                        else
                          let x34 : Bool := ((IntKind.i32.wrap ((IntKind.i32.wrap (8192 * y15)) + y16)) == (y2 0))
                          if x34 = true then
                            if (decide (y16 > (-4096))) = true then
                              let x35 : Bool := ((IntKind.i32.wrap ((IntKind.i32.wrap (523776 * y12)) + y13)) == (y6 0))
                              if x35 = false then
                                if (y12 == 0) = true then
                                  if (decide (y13 < 0)) = true then
                                    if y1 = true then
                                      some false
                                    else
                                      some false
                                  else
                                    if y1 = true then
                                      some false
                                    else
                                      some false
                                else
                                  if y1 = true then
                                    some false
                                  else
                                    some false
                              else
                                if y1 = true then
                                  some false
                                else
                                  some false
                            else
                              let x36 : Bool := ((IntKind.i32.wrap ((IntKind.i32.wrap (523776 * y12)) + y13)) == (y6 0))
                              if x36 = false then
                                if (y12 == 0) = true then
                                  if (decide (y13 < 0)) = true then
                                    if y1 = true then
                                      some false
                                    else
                                      some false
                                  else
                                    if y1 = true then
                                      some false
                                    else
                                      some false
                                else
                                  if y1 = true then
                                    some false
                                  else
                                    some false
                              else
                                if y1 = true then
                                  some false
                                else
                                  some false
                          else
                            let x37 : Bool := ((IntKind.i32.wrap ((IntKind.i32.wrap (523776 * y12)) + y13)) == (y6 0))
                            if x37 = false then
                              if (y12 == 0) = true then
                                if (decide (y13 < 0)) = true then
                                  if y1 = true then
                                    some false
                                  else
                                    some false
                                else
                                  if y1 = true then
                                    some false
                                  else
                                    some false
                              else
                                if y1 = true then
                                  some false
                                else
                                  some false
                            else
                              if y1 = true then
                                some false
                              else
                                some false
                      else
                        let x38 : Bool := ((IntKind.i32.wrap ((IntKind.i32.wrap (8192 * y15)) + y16)) == (y2 0))
                        if x38 = true then
                          if (decide (y16 > (-4096))) = true then
                            let x39 : Bool := ((IntKind.i32.wrap ((IntKind.i32.wrap (523776 * y12)) + y13)) == (y6 0))
                            if x39 = false then
                              if (y12 == 0) = true then
                                if (decide (y13 < 0)) = true then
                                  if y1 = true then
                                    some false
                                  else
                                    some false
                                else
                                  if y1 = true then
                                    some false
                                  else
                                    some false
                              else
                                if y1 = true then
                                  some false
                                else
                                  some false
                            else
                              if y1 = true then
                                some false
                              else
                                some false
                          else
                            let x40 : Bool := ((IntKind.i32.wrap ((IntKind.i32.wrap (523776 * y12)) + y13)) == (y6 0))
                            if x40 = false then
                              if (y12 == 0) = true then
                                if (decide (y13 < 0)) = true then
                                  if y1 = true then
                                    some false
                                  else
                                    some false
                                else
                                  if y1 = true then
                                    some false
                                  else
                                    some false
                              else
                                if y1 = true then
                                  some false
                                else
                                  some false
                            else
                              if y1 = true then
                                some false
                              else
                                some false
                        else
                          let x41 : Bool := ((IntKind.i32.wrap ((IntKind.i32.wrap (523776 * y12)) + y13)) == (y6 0))
                          if x41 = false then
                            if (y12 == 0) = true then
                              if (decide (y13 < 0)) = true then
                                if y1 = true then
                                  some false
                                else
                                  some false
                              else
                                if y1 = true then
                                  some false
                                else
                                  some false
                            else
                              if y1 = true then
                                some false
                              else
                                some false
                          else
                            if y1 = true then
                              some false
                            else
                              some false

noncomputable def annr5 : Ann := .none
abbrev Sr5 : FSh := ⟨[.val (.c (.int .i32)), .val (.c (.int .i32))], [.val (.c (.bool))], [.tmp 4]⟩
noncomputable def cr5 : Ctx Go.Proofs.Try.prog := ⟨rtab, ofL Er22, rtabOk, Er22_ok, rdep, rord⟩
theorem eqr5 : ∀ x : psT Sr5.ps, exec rtab (ofL Er22) 167 bodyr5 annr5 (fin rtab Sr5) (argSt Sr5 x) = Fr5 x := by
  rintro ⟨a0, a1⟩
  kernel_rfl
theorem callsr5 : CallsAs Go.Proofs.Try.prog cr5 5 Sr5 Fr5 := by
  refine fun_calls (fn := Go.Proofs.Try.f5) (c := bodyr5) (ann := annr5) cr5 (by kernel_rfl) (by kernel_rfl) (by kernel_rfl) (by decide) (annOk_of_cuts ?_) eqr5
  intro x hx
  exact absurd hx (by show x ∉ ([] : List (List Nat × LEnt)); simp)

theorem entr5 : EntOk Go.Proofs.Try.prog 5 (funEnt Sr5 Fr5) := fun_ok cr5 (fn := Go.Proofs.Try.f5) (c := bodyr5) (by kernel_rfl) (by kernel_rfl) (by kernel_rfl) rfl rfl (by decide) callsr5
noncomputable def Er5 : List (Nat × Ent) := (5, funEnt Sr5 Fr5) :: Er22
theorem Er5_ok : EntsOk Go.Proofs.Try.prog (ofL Er5) := .cons entr5 Er22_ok

/-! ### barbican/ring.Times -/
noncomputable def bodyr25 : Code := (Go.Proofs.Try.f25.body).getD .skip
abbrev lr25_0 : Lay := ⟨[(2, .ptr 2 0 256), (4, .ptr 4 0 256)], [.env 12 (.agg [.ints .i32 256]), .env 13 (.c (.int .i64)), .reg 2 (.cells [.ints .i32 256]), .reg 4 (.cells [.ints .i32 256])], [(2, 2), (4, 4)]⟩
abbrev or25_0 : List (AExit × Lay) := [(.exit 0, ⟨[(2, .ptr 2 0 256), (4, .ptr 4 0 256)], [.reg 2 (.cells [.ints .i32 256]), .reg 4 (.cells [.ints .i32 256])], [(2, 2), (4, 4)]⟩)]
noncomputable def stepr25_0 : (Nat → Int) × Int × (Nat → Int) × (Nat → Int) → Option (((Nat → Int) × Int × (Nat → Int) × (Nat → Int)) ⊕ (((Nat → Int) × (Nat → Int))))
  | (t12, t13, r2, r4) =>
    if (decide (t13 < 256)) = true then
      if (0 : Int) ≤ t13 ∧ t13 < (256 : Int) then
        if (0 : Int) ≤ t13 ∧ t13 < ((256 : Int) : Int) then
          (Fr34 ((r2 t13.toNat), (t12 t13.toNat))).bind fun y2 =>
            if (0 : Int) ≤ t13 ∧ t13 < ((256 : Int) : Int) then
              some (.inl (t12, (IntKind.i64.wrap (t13 + 1)), (upd r2 t13.toNat y2), r4))
            else none
        else none
      else none
    else
      some (.inr (r2, r4))

noncomputable def annr25_0 : Ann := .none
noncomputable def Fr25 : (Nat → Int) × (Nat → Int) → Option ((Nat → Int) × Int)
  | (a0, a1) =>
    (Fr32 [a0, a1]).bind fun y1 =>
      if (!y1) = true then
        some ((fun _ => 0), 81)
      else
        (loopO stepr25_0 (a1, 0, a0, (fun _ => 0))).bind fun (z3, z4) =>
          some (z3, 0)

noncomputable def annr25 : Ann := (.seq .none (.seq .none (.seq (.seq .none (.seq (.cut (cutEnt lr25_0 or25_0 (loopO stepr25_0))) .none)) .none)))
abbrev Sr25 : FSh := ⟨[.val (.agg [.ints .i32 256]), .val (.agg [.ints .i32 256])], [.val (.agg [.ints .i32 256]), .val (.c (.int .i64))], [.cell 4 23, .tmp 5]⟩
noncomputable def cr25 : Ctx Go.Proofs.Try.prog := ⟨rtab, ofL Er5, rtabOk, Er5_ok, rdep, rord⟩
theorem eqr25_0 : ∀ s : lr25_0.T, exec rtab (ofL Er5) 26 (Code.at' [1, 1, 0, 1, 0, 0] bodyr25) annr25_0 (fun e st => loopEnd (l := lr25_0) (outs := or25_0) e st) (lr25_0.enc s) = stepr25_0 s := by
  rintro ⟨t12, t13, r2, r4⟩
  kernel_rfl
theorem okr25_0 : LOk Go.Proofs.Try.prog 26 (cutEnt lr25_0 or25_0 (loopO stepr25_0)) (Code.at' [1, 1, 0, 1, 0] bodyr25) := by
  have e : Code.at' [1, 1, 0, 1, 0] bodyr25 = .loop (Code.at' [1, 1, 0, 1, 0, 0] bodyr25) := by kernel_rfl
  rw [e]
  refine loop_ok cr25 26 rfl rfl (annOk_of_cuts ?_) eqr25_0
  intro x hx
  exact absurd hx (by show x ∉ ([] : List (List Nat × LEnt)); simp)

theorem eqr25 : ∀ x : psT Sr25.ps, exec rtab (ofL Er5) 26 bodyr25 annr25 (fin rtab Sr25) (argSt Sr25 x) = Fr25 x := by
  rintro ⟨a0, a1⟩
  kernel_rfl
theorem callsr25 : CallsAs Go.Proofs.Try.prog cr25 25 Sr25 Fr25 := by
  refine fun_calls (fn := Go.Proofs.Try.f25) (c := bodyr25) (ann := annr25) cr25 (by kernel_rfl) (by kernel_rfl) (by kernel_rfl) (by decide) (annOk_of_cuts ?_) eqr25
  have hc : Ann.cuts annr25 = [([1, 1, 0, 1, 0], (cutEnt lr25_0 or25_0 (loopO stepr25_0)))] := by kernel_rfl
  rw [hc]
  intro x hx
  simp only [List.mem_cons, List.not_mem_nil, or_false] at hx
  rcases hx with rfl
  · have e : Code.at' [1, 1, 0, 1, 0] bodyr25 = Code.at' [1, 1, 0, 1, 0] bodyr25 := by kernel_rfl
    rw [e]; exact okr25_0

theorem entr25 : EntOk Go.Proofs.Try.prog 25 (funEnt Sr25 Fr25) := fun_ok cr25 (fn := Go.Proofs.Try.f25) (c := bodyr25) (by kernel_rfl) (by kernel_rfl) (by kernel_rfl) rfl rfl (by decide) callsr25
noncomputable def Er25 : List (Nat × Ent) := (25, funEnt Sr25 Fr25) :: Er5
theorem Er25_ok : EntsOk Go.Proofs.Try.prog (ofL Er25) := .cons entr25 Er5_ok

/-! ### barbican/ring.Mul -/
noncomputable def bodyr23 : Code := (Go.Proofs.Try.f23.body).getD .skip
noncomputable def Fr23 : (Nat → Int) × (Nat → Int) → Option ((Nat → Int) × Int)
  | (a0, a1) =>
    (Fr32 [a0, a1]).bind fun y1 =>
      if (!y1) = true then
        some ((fun _ => 0), 81)
      else
        (Fr9 a0).bind fun (y2, y3) =>
          (Fr9 a1).bind fun (y4, y5) =>
            (Fr25 (y2, y4)).bind fun (y6, y7) =>
              (Fr10 y6).bind fun (y8, y9) =>
                some (y8, y9)

noncomputable def annr23 : Ann := .none
abbrev Sr23 : FSh := ⟨[.val (.agg [.ints .i32 256]), .val (.agg [.ints .i32 256])], [.val (.agg [.ints .i32 256]), .val (.c (.int .i64))], [.cell 4 23, .tmp 5]⟩
noncomputable def cr23 : Ctx Go.Proofs.Try.prog := ⟨rtab, ofL Er25, rtabOk, Er25_ok, rdep, rord⟩
theorem eqr23 : ∀ x : psT Sr23.ps, exec rtab (ofL Er25) 36 bodyr23 annr23 (fin rtab Sr23) (argSt Sr23 x) = Fr23 x := by
  rintro ⟨a0, a1⟩
  kernel_rfl
theorem callsr23 : CallsAs Go.Proofs.Try.prog cr23 23 Sr23 Fr23 := by
  refine fun_calls (fn := Go.Proofs.Try.f23) (c := bodyr23) (ann := annr23) cr23 (by kernel_rfl) (by kernel_rfl) (by kernel_rfl) (by decide) (annOk_of_cuts ?_) eqr23
  intro x hx
  exact absurd hx (by show x ∉ ([] : List (List Nat × LEnt)); simp)

theorem entr23 : EntOk Go.Proofs.Try.prog 23 (funEnt Sr23 Fr23) := fun_ok cr23 (fn := Go.Proofs.Try.f23) (c := bodyr23) (by kernel_rfl) (by kernel_rfl) (by kernel_rfl) rfl rfl (by decide) callsr23
noncomputable def Er23 : List (Nat × Ent) := (23, funEnt Sr23 Fr23) :: Er25
theorem Er23_ok : EntsOk Go.Proofs.Try.prog (ofL Er23) := .cons entr23 Er25_ok

/-! ### barbican/ring.Sub -/
noncomputable def bodyr24 : Code := (Go.Proofs.Try.f24.body).getD .skip
abbrev lr24_0 : Lay := ⟨[(2, .ptr 2 0 256), (4, .ptr 4 0 256)], [.env 12 (.agg [.ints .i32 256]), .env 13 (.c (.int .i64)), .reg 2 (.cells [.ints .i32 256]), .reg 4 (.cells [.ints .i32 256])], [(2, 2), (4, 4)]⟩
abbrev or24_0 : List (AExit × Lay) := [(.exit 0, ⟨[(2, .ptr 2 0 256), (4, .ptr 4 0 256)], [.reg 2 (.cells [.ints .i32 256]), .reg 4 (.cells [.ints .i32 256])], [(2, 2), (4, 4)]⟩)]
noncomputable def stepr24_0 : (Nat → Int) × Int × (Nat → Int) × (Nat → Int) → Option (((Nat → Int) × Int × (Nat → Int) × (Nat → Int)) ⊕ (((Nat → Int) × (Nat → Int))))
  | (t12, t13, r2, r4) =>
    if (decide (t13 < 256)) = true then
      if (0 : Int) ≤ t13 ∧ t13 < (256 : Int) then
        if (0 : Int) ≤ t13 ∧ t13 < ((256 : Int) : Int) then
          let x2 : Int := (IntKind.i64.wrap ((IntKind.i64.wrap (r2 t13.toNat)) - (IntKind.i64.wrap (t12 t13.toNat))))
          (Fr35 x2).bind fun y3 =>
            if (0 : Int) ≤ t13 ∧ t13 < ((256 : Int) : Int) then
              some (.inl (t12, (IntKind.i64.wrap (t13 + 1)), (upd r2 t13.toNat y3), r4))
            else none
        else none
      else none
    else
      some (.inr (r2, r4))

noncomputable def annr24_0 : Ann := .none
noncomputable def Fr24 : (Nat → Int) × (Nat → Int) → Option ((Nat → Int) × Int)
  | (a0, a1) =>
    (Fr32 [a0, a1]).bind fun y1 =>
      if (!y1) = true then
        some ((fun _ => 0), 81)
      else
        (loopO stepr24_0 (a1, 0, a0, (fun _ => 0))).bind fun (z4, z5) =>
          some (z4, 0)

noncomputable def annr24 : Ann := (.seq .none (.seq .none (.seq (.seq .none (.seq (.cut (cutEnt lr24_0 or24_0 (loopO stepr24_0))) .none)) .none)))
abbrev Sr24 : FSh := ⟨[.val (.agg [.ints .i32 256]), .val (.agg [.ints .i32 256])], [.val (.agg [.ints .i32 256]), .val (.c (.int .i64))], [.cell 4 23, .tmp 5]⟩
noncomputable def cr24 : Ctx Go.Proofs.Try.prog := ⟨rtab, ofL Er23, rtabOk, Er23_ok, rdep, rord⟩
theorem eqr24_0 : ∀ s : lr24_0.T, exec rtab (ofL Er23) 29 (Code.at' [1, 1, 0, 1, 0, 0] bodyr24) annr24_0 (fun e st => loopEnd (l := lr24_0) (outs := or24_0) e st) (lr24_0.enc s) = stepr24_0 s := by
  rintro ⟨t12, t13, r2, r4⟩
  kernel_rfl
theorem okr24_0 : LOk Go.Proofs.Try.prog 29 (cutEnt lr24_0 or24_0 (loopO stepr24_0)) (Code.at' [1, 1, 0, 1, 0] bodyr24) := by
  have e : Code.at' [1, 1, 0, 1, 0] bodyr24 = .loop (Code.at' [1, 1, 0, 1, 0, 0] bodyr24) := by kernel_rfl
  rw [e]
  refine loop_ok cr24 29 rfl rfl (annOk_of_cuts ?_) eqr24_0
  intro x hx
  exact absurd hx (by show x ∉ ([] : List (List Nat × LEnt)); simp)

theorem eqr24 : ∀ x : psT Sr24.ps, exec rtab (ofL Er23) 29 bodyr24 annr24 (fin rtab Sr24) (argSt Sr24 x) = Fr24 x := by
  rintro ⟨a0, a1⟩
  kernel_rfl
theorem callsr24 : CallsAs Go.Proofs.Try.prog cr24 24 Sr24 Fr24 := by
  refine fun_calls (fn := Go.Proofs.Try.f24) (c := bodyr24) (ann := annr24) cr24 (by kernel_rfl) (by kernel_rfl) (by kernel_rfl) (by decide) (annOk_of_cuts ?_) eqr24
  have hc : Ann.cuts annr24 = [([1, 1, 0, 1, 0], (cutEnt lr24_0 or24_0 (loopO stepr24_0)))] := by kernel_rfl
  rw [hc]
  intro x hx
  simp only [List.mem_cons, List.not_mem_nil, or_false] at hx
  rcases hx with rfl
  · have e : Code.at' [1, 1, 0, 1, 0] bodyr24 = Code.at' [1, 1, 0, 1, 0] bodyr24 := by kernel_rfl
    rw [e]; exact okr24_0

theorem entr24 : EntOk Go.Proofs.Try.prog 24 (funEnt Sr24 Fr24) := fun_ok cr24 (fn := Go.Proofs.Try.f24) (c := bodyr24) (by kernel_rfl) (by kernel_rfl) (by kernel_rfl) rfl rfl (by decide) callsr24
noncomputable def Er24 : List (Nat × Ent) := (24, funEnt Sr24 Fr24) :: Er23
theorem Er24_ok : EntsOk Go.Proofs.Try.prog (ofL Er24) := .cons entr24 Er23_ok

/-! ### barbican/barbicanlaw08.RingLaws -/
noncomputable def bodyr6 : Code := (Go.Proofs.Try.f6.body).getD .skip
abbrev lr6_0 : Lay := ⟨[(8, .ptr 8 0 256), (36, .ptr 36 0 256), (38, .ptr 38 0 256), (40, .ptr 40 0 256), (44, .ptr 44 0 256), (46, .ptr 46 0 256)], [.env 31 (.c (.bool)), .env 49 (.c (.bool)), .env 50 (.c (.int .i64)), .reg 8 (.cells [.ints .i32 256]), .reg 36 (.cells [.ints .i32 256]), .reg 38 (.cells [.ints .i32 256]), .reg 40 (.cells [.ints .i32 256]), .reg 44 (.cells [.ints .i32 256]), .reg 46 (.cells [.ints .i32 256])], [(8, 8), (36, 36), (38, 38), (40, 40), (44, 44), (46, 46)]⟩
abbrev or6_0 : List (AExit × Lay) := [(.exit 0, ⟨[(8, .ptr 8 0 256), (36, .ptr 36 0 256), (38, .ptr 38 0 256), (40, .ptr 40 0 256), (44, .ptr 44 0 256)], [.env 31 (.c (.bool)), .env 49 (.c (.bool)), .reg 8 (.cells [.ints .i32 256]), .reg 36 (.cells [.ints .i32 256]), .reg 38 (.cells [.ints .i32 256]), .reg 40 (.cells [.ints .i32 256]), .reg 44 (.cells [.ints .i32 256])], [(8, 8), (36, 36), (38, 38), (40, 40), (44, 44)]⟩)]
noncomputable def stepr6_0 : Bool × Bool × Int × (Nat → Int) × (Nat → Int) × (Nat → Int) × (Nat → Int) × (Nat → Int) × (Nat → Int) → Option ((Bool × Bool × Int × (Nat → Int) × (Nat → Int) × (Nat → Int) × (Nat → Int) × (Nat → Int) × (Nat → Int)) ⊕ ((Bool × Bool × (Nat → Int) × (Nat → Int) × (Nat → Int) × (Nat → Int) × (Nat → Int))))
  | (t31, t49, t50, r8, r36, r38, r40, r44, r46) =>
    if (decide (t50 < 256)) = true then
      if t49 = true then
        if (0 : Int) ≤ t50 ∧ t50 < ((256 : Int) : Int) then
          if (0 : Int) ≤ (IntKind.i64.wrap (t50 - 1)) ∧ (IntKind.i64.wrap (t50 - 1)) < ((256 : Int) : Int) then
            some (.inl (t31, ((r46 t50.toNat) == (r8 (IntKind.i64.wrap (t50 - 1)).toNat)), (IntKind.i64.wrap (t50 + 1)), r8, r36, r38, r40, r44, r46))
          else none
        else none
      else
        some (.inl (t31, false, (IntKind.i64.wrap (t50 + 1)), r8, r36, r38, r40, r44, r46))
    else
      some (.inr (t31, t49, r8, r36, r38, r40, r44))

noncomputable def annr6_0 : Ann := .none
noncomputable def Fr6 : (Nat → Int) × (Nat → Int) × (Nat → Int) → Option (Bool)
  | (a0, a1, a2) =>
    (Fr8 ()).bind fun y1 =>
      (Fr21 a0).bind fun y2 =>
        (Fr21 a1).bind fun y3 =>
          (Fr21 a2).bind fun y4 =>
            (Fr23 (y2, y3)).bind fun (y5, y6) =>
              (Fr23 (y3, y2)).bind fun (y7, y8) =>
                (Fr23 (y3, y4)).bind fun (y9, y10) =>
                  if (!y1) = false then
                    if (y6 != 0) = false then
                      if (y8 != 0) = false then
                        if (y10 != 0) = true then
                          some false
                        else
                          (Fr23 (y5, y4)).bind fun (y11, y12) =>
                            (Fr23 (y2, y9)).bind fun (y13, y14) =>
                              (Fr22 (y3, y4)).bind fun (y15, y16) =>
                                (Fr23 (y2, y15)).bind fun (y17, y18) =>
                                  (Fr23 (y2, y4)).bind fun (y19, y20) =>
                                    (Fr22 (y5, y19)).bind fun (y21, y22) =>
                                      (Fr24 (y15, y4)).bind fun (y23, y24) =>
                                        if (arrEq 256 y5 y7) = true then
                                          if (arrEq 256 y11 y13) = true then
                                            if (arrEq 256 y17 y21) = true then
                                              (Fr9 y2).bind fun (y25, y26) =>
                                                (Fr9 y3).bind fun (y27, y28) =>
                                                  (Fr9 y5).bind fun (y29, y30) =>
                                                    (Fr25 (y25, y27)).bind fun (y31, y32) =>
                                                      (Fr10 y25).bind fun (y33, y34) =>
                                                        (Fr10 y2).bind fun (y35, y36) =>
                                                          (Fr9 y35).bind fun (y37, y38) =>
                                                            (Fr23 (y2, (upd (upd (fun _ => 0) 0 0) 1 1))).bind fun (y39, y40) =>
                                                              (Fr21 (upd (fun _ => 0) 0 (IntKind.i32.wrap (0 - (y2 255))))).bind fun y41 =>
                                                                (loopO stepr6_0 ((arrEq 256 y23 y3), ((y39 0) == (y41 0)), 1, y2, y29, y31, y33, y37, y39)).bind fun (z42, z43, z44, z45, z46, z47, z48) =>
                                                                  if z42 = true then
                                                                    if z43 = true then
                                                                      if (arrEq 256 z46 z45) = true then
                                                                        if (arrEq 256 z47 z44) = true then
                                                                          some (arrEq 256 z48 z44)
                                                                        else
                                                                          some false
                                                                      else
                                                                        some false
                                                                    else
                                                                      some false
                                                                  else
                                                                    some false
                                            else
                                              (Fr9 y2).bind fun (y49, y50) =>
                                                (Fr9 y3).bind fun (y51, y52) =>
                                                  (Fr9 y5).bind fun (y53, y54) =>
                                                    (Fr25 (y49, y51)).bind fun (y55, y56) =>
                                                      (Fr10 y49).bind fun (y57, y58) =>
                                                        (Fr10 y2).bind fun (y59, y60) =>
                                                          (Fr9 y59).bind fun (y61, y62) =>
                                                            (Fr23 (y2, (upd (upd (fun _ => 0) 0 0) 1 1))).bind fun (y63, y64) =>
                                                              (Fr21 (upd (fun _ => 0) 0 (IntKind.i32.wrap (0 - (y2 255))))).bind fun y65 =>
                                                                (loopO stepr6_0 (false, ((y63 0) == (y65 0)), 1, y2, y53, y55, y57, y61, y63)).bind fun (z66, z67, z68, z69, z70, z71, z72) =>
                                                                  if z66 = true then
                                                                    if z67 = true then
                                                                      if (arrEq 256 z70 z69) = true then
                                                                        if (arrEq 256 z71 z68) = true then
                                                                          some (arrEq 256 z72 z68)
                                                                        else
                                                                          some false
                                                                      else
                                                                        some false
                                                                    else
                                                                      some false
                                                                  else
                                                                    some false
                                          else
                                            (Fr9 y2).bind fun (y73, y74) =>
                                              (Fr9 y3).bind fun (y75, y76) =>
                                                (Fr9 y5).bind fun (y77, y78) =>
                                                  (Fr25 (y73, y75)).bind fun (y79, y80) =>
                                                    (Fr10 y73).bind fun (y81, y82) =>
                                                      (Fr10 y2).bind fun (y83, y84) =>
                                                        (Fr9 y83).bind fun (y85, y86) =>
                                                          (Fr23 (y2, (upd (upd (fun _ => 0) 0 0) 1 1))).bind fun (y87, y88) =>
                                                            (Fr21 (upd (fun _ => 0) 0 (IntKind.i32.wrap (0 - (y2 255))))).bind fun y89 =>
                                                              (loopO stepr6_0 (false, ((y87 0) == (y89 0)), 1, y2, y77, y79, y81, y85, y87)).bind fun (z90, z91, z92, z93, z94, z95, z96) =>
                                                                if z90 = true then
                                                                  if z91 = true then
                                                                    if (arrEq 256 z94 z93) = true then
                                                                      if (arrEq 256 z95 z92) = true then
                                                                        some (arrEq 256 z96 z92)
                                                                      else
                                                                        some false
                                                                    else
                                                                      some false
                                                                  else
                                                                    some false
                                                                else
                                                                  some false
                                        else
                                          (Fr9 y2).bind fun (y97, y98) =>
                                            (Fr9 y3).bind fun (y99, y100) =>
                                              (Fr9 y5).bind fun (y101, y102) =>
                                                (Fr25 (y97, y99)).bind fun (y103, y104) =>
                                                  (Fr10 y97).bind fun (y105, y106) =>
                                                    (Fr10 y2).bind fun (y107, y108) =>
                                                      (Fr9 y107).bind fun (y109, y110) =>
                                                        (Fr23 (y2, (upd (upd (fun _ => 0) 0 0) 1 1))).bind fun (y111, y112) =>
                                                          (Fr21 (upd (fun _ => 0) 0 (IntKind.i32.wrap (0 - (y2 255))))).bind fun y113 =>
                                                            (loopO stepr6_0 (false, ((y111 0) == (y113 0)), 1, y2, y101, y103, y105, y109, y111)).bind fun (z114, z115, z116, z117, z118, z119, z120) =>
                                                              if z114 = true then
                                                                if z115 = true then
                                                                  if (arrEq 256 z118 z117) = true then
                                                                    if (arrEq 256 z119 z116) = true then
                                                                      some (arrEq 256 z120 z116)
                                                                    else
                                                                      some false
                                                                  else
                                                                    some false
                                                                else
                                                                  some false
                                                              else
                                                                some false
                      else
                        some false
                    else
                      some false
                  else
                    some false

noncomputable def annr6 : Ann := (.seq .none (.seq .none (.seq .none (.seq .none (.seq .none (.seq .none (.seq .none (.seq .none (.seq .none (.seq .none (.seq .none (.seq .none (.seq .none (.seq .none (.seq .none (.seq .none (.seq .none (.seq .none (.seq .none (.seq .none (.seq .none (.seq .none (.seq .none (.seq .none (.seq .none (.seq .none (.seq .none (.seq (.seq .none (.seq (.cut (cutEnt lr6_0 or6_0 (loopO stepr6_0))) .none)) .none))))))))))))))))))))))))))))
abbrev Sr6 : FSh := ⟨[.val (.agg [.ints .i32 256]), .val (.agg [.ints .i32 256]), .val (.agg [.ints .i32 256])], [.val (.c (.bool))], [.tmp 6]⟩
noncomputable def cr6 : Ctx Go.Proofs.Try.prog := ⟨rtab, ofL Er24, rtabOk, Er24_ok, rdep, rord⟩
theorem eqr6_0 : ∀ s : lr6_0.T, exec rtab (ofL Er24) 236 (Code.at' [1, 1, 1, 1, 1, 1, 1, 1, 1, 1, 1, 1, 1, 1, 1, 1, 1, 1, 1, 1, 1, 1, 1, 1, 1, 1, 1, 0, 1, 0, 0] bodyr6) annr6_0 (fun e st => loopEnd (l := lr6_0) (outs := or6_0) e st) (lr6_0.enc s) = stepr6_0 s := by
  rintro ⟨t31, t49, t50, r8, r36, r38, r40, r44, r46⟩
  kernel_rfl
theorem okr6_0 : LOk Go.Proofs.Try.prog 236 (cutEnt lr6_0 or6_0 (loopO stepr6_0)) (Code.at' [1, 1, 1, 1, 1, 1, 1, 1, 1, 1, 1, 1, 1, 1, 1, 1, 1, 1, 1, 1, 1, 1, 1, 1, 1, 1, 1, 0, 1, 0] bodyr6) := by
  have e : Code.at' [1, 1, 1, 1, 1, 1, 1, 1, 1, 1, 1, 1, 1, 1, 1, 1, 1, 1, 1, 1, 1, 1, 1, 1, 1, 1, 1, 0, 1, 0] bodyr6 = .loop (Code.at' [1, 1, 1, 1, 1, 1, 1, 1, 1, 1, 1, 1, 1, 1, 1, 1, 1, 1, 1, 1, 1, 1, 1, 1, 1, 1, 1, 0, 1, 0, 0] bodyr6) := by kernel_rfl
  rw [e]
  refine loop_ok cr6 236 rfl rfl (annOk_of_cuts ?_) eqr6_0
  intro x hx
  exact absurd hx (by show x ∉ ([] : List (List Nat × LEnt)); simp)

theorem eqr6 : ∀ x : psT Sr6.ps, exec rtab (ofL Er24) 236 bodyr6 annr6 (fin rtab Sr6) (argSt Sr6 x) = Fr6 x := by
  rintro ⟨a0, a1, a2⟩
  kernel_rfl
theorem callsr6 : CallsAs Go.Proofs.Try.prog cr6 6 Sr6 Fr6 := by
  refine fun_calls (fn := Go.Proofs.Try.f6) (c := bodyr6) (ann := annr6) cr6 (by kernel_rfl) (by kernel_rfl) (by kernel_rfl) (by decide) (annOk_of_cuts ?_) eqr6
  have hc : Ann.cuts annr6 = [([1, 1, 1, 1, 1, 1, 1, 1, 1, 1, 1, 1, 1, 1, 1, 1, 1, 1, 1, 1, 1, 1, 1, 1, 1, 1, 1, 0, 1, 0], (cutEnt lr6_0 or6_0 (loopO stepr6_0)))] := by kernel_rfl
  rw [hc]
  intro x hx
  simp only [List.mem_cons, List.not_mem_nil, or_false] at hx
  rcases hx with rfl
  · have e : Code.at' [1, 1, 1, 1, 1, 1, 1, 1, 1, 1, 1, 1, 1, 1, 1, 1, 1, 1, 1, 1, 1, 1, 1, 1, 1, 1, 1, 0, 1, 0] bodyr6 = Code.at' [1, 1, 1, 1, 1, 1, 1, 1, 1, 1, 1, 1, 1, 1, 1, 1, 1, 1, 1, 1, 1, 1, 1, 1, 1, 1, 1, 0, 1, 0] bodyr6 := by kernel_rfl
    rw [e]; exact okr6_0

theorem entr6 : EntOk Go.Proofs.Try.prog 6 (funEnt Sr6 Fr6) := fun_ok cr6 (fn := Go.Proofs.Try.f6) (c := bodyr6) (by kernel_rfl) (by kernel_rfl) (by kernel_rfl) rfl rfl (by decide) callsr6
noncomputable def Er6 : List (Nat × Ent) := (6, funEnt Sr6 Fr6) :: Er24
theorem Er6_ok : EntsOk Go.Proofs.Try.prog (ofL Er6) := .cons entr6 Er24_ok

/-! ### barbican/ring.centred -/
noncomputable def bodyr39 : Code := (Go.Proofs.Try.f39.body).getD .skip
noncomputable def Fr39 : Int → Option (Int)
  | a0 =>
    if (decide (a0 > 4190208)) = true then
      some (IntKind.i32.wrap (a0 - 8380417))
    else
      some a0

noncomputable def annr39 : Ann := .none
abbrev Sr39 : FSh := ⟨[.val (.c (.int .i32))], [.val (.c (.int .i32))], [.tmp 2]⟩
noncomputable def cr39 : Ctx Go.Proofs.Try.prog := ⟨rtab, ofL Er6, rtabOk, Er6_ok, rdep, rord⟩
theorem eqr39 : ∀ x : psT Sr39.ps, exec rtab (ofL Er6) 8 bodyr39 annr39 (fin rtab Sr39) (argSt Sr39 x) = Fr39 x := by
  intro x
  kernel_rfl
theorem callsr39 : CallsAs Go.Proofs.Try.prog cr39 39 Sr39 Fr39 := by
  refine fun_calls (fn := Go.Proofs.Try.f39) (c := bodyr39) (ann := annr39) cr39 (by kernel_rfl) (by kernel_rfl) (by kernel_rfl) (by decide) (annOk_of_cuts ?_) eqr39
  intro x hx
  exact absurd hx (by show x ∉ ([] : List (List Nat × LEnt)); simp)

theorem entr39 : EntOk Go.Proofs.Try.prog 39 (funEnt Sr39 Fr39) := fun_ok cr39 (fn := Go.Proofs.Try.f39) (c := bodyr39) (by kernel_rfl) (by kernel_rfl) (by kernel_rfl) rfl rfl (by decide) callsr39
noncomputable def Er39 : List (Nat × Ent) := (39, funEnt Sr39 Fr39) :: Er6
theorem Er39_ok : EntsOk Go.Proofs.Try.prog (ofL Er39) := .cons entr39 Er6_ok

/-! ### barbican/ring.Norm -/
noncomputable def bodyr26 : Code := (Go.Proofs.Try.f26.body).getD .skip
abbrev lr26_0 : Lay := ⟨[], [.env 4 (.c (.int .i32)), .env 10 (.agg [.ints .i32 256]), .env 11 (.c (.int .i64))], []⟩
abbrev or26_0 : List (AExit × Lay) := [(.exit 0, ⟨[], [.env 4 (.c (.int .i32))], []⟩)]
noncomputable def stepr26_0 : Int × (Nat → Int) × Int → Option ((Int × (Nat → Int) × Int) ⊕ ((Int)))
  | (t4, t10, t11) =>
    if (decide (t11 < 256)) = true then
      if (0 : Int) ≤ t11 ∧ t11 < (256 : Int) then
        (Fr39 (t10 t11.toNat)).bind fun y2 =>
          let x3 : Int := (if (if t4 < y2 then y2 else t4) < (IntKind.i32.wrap (0 - y2)) then (IntKind.i32.wrap (0 - y2)) else (if t4 < y2 then y2 else t4))
          some (.inl (x3, t10, (IntKind.i64.wrap (t11 + 1))))
      else none
    else
      some (.inr t4)

noncomputable def annr26_0 : Ann := .none
noncomputable def Fr26 : (Nat → Int) → Option (Int × Int)
  | a0 =>
    (Fr32 [a0]).bind fun y1 =>
      if (!y1) = true then
        some (0, 81)
      else
        (loopO stepr26_0 (0, a0, 0)).bind fun z4 =>
          some (z4, 0)

noncomputable def annr26 : Ann := (.seq .none (.seq .none (.seq .none (.seq (.seq .none (.seq (.cut (cutEnt lr26_0 or26_0 (loopO stepr26_0))) .none)) .none))))
abbrev Sr26 : FSh := ⟨[.val (.agg [.ints .i32 256])], [.val (.c (.int .i32)), .val (.c (.int .i64))], [.tmp 2, .tmp 3]⟩
noncomputable def cr26 : Ctx Go.Proofs.Try.prog := ⟨rtab, ofL Er39, rtabOk, Er39_ok, rdep, rord⟩
theorem eqr26_0 : ∀ s : lr26_0.T, exec rtab (ofL Er39) 23 (Code.at' [1, 1, 1, 0, 1, 0, 0] bodyr26) annr26_0 (fun e st => loopEnd (l := lr26_0) (outs := or26_0) e st) (lr26_0.enc s) = stepr26_0 s := by
  rintro ⟨t4, t10, t11⟩
  kernel_rfl
theorem okr26_0 : LOk Go.Proofs.Try.prog 23 (cutEnt lr26_0 or26_0 (loopO stepr26_0)) (Code.at' [1, 1, 1, 0, 1, 0] bodyr26) := by
  have e : Code.at' [1, 1, 1, 0, 1, 0] bodyr26 = .loop (Code.at' [1, 1, 1, 0, 1, 0, 0] bodyr26) := by kernel_rfl
  rw [e]
  refine loop_ok cr26 23 rfl rfl (annOk_of_cuts ?_) eqr26_0
  intro x hx
  exact absurd hx (by show x ∉ ([] : List (List Nat × LEnt)); simp)

theorem eqr26 : ∀ x : psT Sr26.ps, exec rtab (ofL Er39) 23 bodyr26 annr26 (fin rtab Sr26) (argSt Sr26 x) = Fr26 x := by
  intro x
  kernel_rfl
theorem callsr26 : CallsAs Go.Proofs.Try.prog cr26 26 Sr26 Fr26 := by
  refine fun_calls (fn := Go.Proofs.Try.f26) (c := bodyr26) (ann := annr26) cr26 (by kernel_rfl) (by kernel_rfl) (by kernel_rfl) (by decide) (annOk_of_cuts ?_) eqr26
  have hc : Ann.cuts annr26 = [([1, 1, 1, 0, 1, 0], (cutEnt lr26_0 or26_0 (loopO stepr26_0)))] := by kernel_rfl
  rw [hc]
  intro x hx
  simp only [List.mem_cons, List.not_mem_nil, or_false] at hx
  rcases hx with rfl
  · have e : Code.at' [1, 1, 1, 0, 1, 0] bodyr26 = Code.at' [1, 1, 1, 0, 1, 0] bodyr26 := by kernel_rfl
    rw [e]; exact okr26_0

theorem entr26 : EntOk Go.Proofs.Try.prog 26 (funEnt Sr26 Fr26) := fun_ok cr26 (fn := Go.Proofs.Try.f26) (c := bodyr26) (by kernel_rfl) (by kernel_rfl) (by kernel_rfl) rfl rfl (by decide) callsr26
noncomputable def Er26 : List (Nat × Ent) := (26, funEnt Sr26 Fr26) :: Er39
theorem Er26_ok : EntsOk Go.Proofs.Try.prog (ofL Er26) := .cons entr26 Er39_ok

/-! ### barbican/barbicanref08.Reduce -/
noncomputable def bodyr27 : Code := (Go.Proofs.Try.f27.body).getD .skip
abbrev lr27_0 : Lay := ⟨[(1, .ptr 1 0 256), (2, .ptr 2 0 256), (3, .ptr 3 0 256)], [.env 4 (.c (.int .i64)), .reg 1 (.cells [.ints .i32 256]), .reg 2 (.cells [.ints .i32 256]), .reg 3 (.cells [.ints .i32 256])], [(1, 1), (2, 2), (3, 3)]⟩
abbrev or27_0 : List (AExit × Lay) := [(.exit 0, ⟨[(2, .ptr 2 0 256), (3, .ptr 3 0 256)], [.reg 2 (.cells [.ints .i32 256]), .reg 3 (.cells [.ints .i32 256])], [(2, 2), (3, 3)]⟩)]
noncomputable def stepr27_0 : Int × (Nat → Int) × (Nat → Int) × (Nat → Int) → Option ((Int × (Nat → Int) × (Nat → Int) × (Nat → Int)) ⊕ (((Nat → Int) × (Nat → Int))))
  | (t4, r1, r2, r3) =>
    if (decide (t4 < 256)) = true then
      if (0 : Int) ≤ t4 ∧ t4 < ((256 : Int) : Int) then
        (Fr20 (IntKind.i64.wrap (r1 t4.toNat))).bind fun y1 =>
          if (0 : Int) ≤ t4 ∧ t4 < ((256 : Int) : Int) then
            some (.inl ((IntKind.i64.wrap (t4 + 1)), r1, r2, (upd r3 t4.toNat y1)))
          else none
      else none
    else
      some (.inr (r2, r3))

noncomputable def annr27_0 : Ann := .none
noncomputable def Fr27 : (Nat → Int) → Option ((Nat → Int))
  | a0 =>
    (loopO stepr27_0 (0, a0, (fun _ => 0), (fun _ => 0))).bind fun (z2, z3) =>
      some z3

noncomputable def annr27 : Ann := (.seq .none (.seq .none (.seq (.seq .none (.seq (.cut (cutEnt lr27_0 or27_0 (loopO stepr27_0))) .none)) .none)))
abbrev Sr27 : FSh := ⟨[.val (.agg [.ints .i32 256])], [.val (.agg [.ints .i32 256])], [.cell 2 23]⟩
noncomputable def cr27 : Ctx Go.Proofs.Try.prog := ⟨rtab, ofL Er26, rtabOk, Er26_ok, rdep, rord⟩
theorem eqr27_0 : ∀ s : lr27_0.T, exec rtab (ofL Er26) 17 (Code.at' [1, 1, 0, 1, 0, 0] bodyr27) annr27_0 (fun e st => loopEnd (l := lr27_0) (outs := or27_0) e st) (lr27_0.enc s) = stepr27_0 s := by
  rintro ⟨t4, r1, r2, r3⟩
  kernel_rfl
theorem okr27_0 : LOk Go.Proofs.Try.prog 17 (cutEnt lr27_0 or27_0 (loopO stepr27_0)) (Code.at' [1, 1, 0, 1, 0] bodyr27) := by
  have e : Code.at' [1, 1, 0, 1, 0] bodyr27 = .loop (Code.at' [1, 1, 0, 1, 0, 0] bodyr27) := by kernel_rfl
  rw [e]
  refine loop_ok cr27 17 rfl rfl (annOk_of_cuts ?_) eqr27_0
  intro x hx
  exact absurd hx (by show x ∉ ([] : List (List Nat × LEnt)); simp)

theorem eqr27 : ∀ x : psT Sr27.ps, exec rtab (ofL Er26) 17 bodyr27 annr27 (fin rtab Sr27) (argSt Sr27 x) = Fr27 x := by
  intro x
  kernel_rfl
theorem callsr27 : CallsAs Go.Proofs.Try.prog cr27 27 Sr27 Fr27 := by
  refine fun_calls (fn := Go.Proofs.Try.f27) (c := bodyr27) (ann := annr27) cr27 (by kernel_rfl) (by kernel_rfl) (by kernel_rfl) (by decide) (annOk_of_cuts ?_) eqr27
  have hc : Ann.cuts annr27 = [([1, 1, 0, 1, 0], (cutEnt lr27_0 or27_0 (loopO stepr27_0)))] := by kernel_rfl
  rw [hc]
  intro x hx
  simp only [List.mem_cons, List.not_mem_nil, or_false] at hx
  rcases hx with rfl
  · have e : Code.at' [1, 1, 0, 1, 0] bodyr27 = Code.at' [1, 1, 0, 1, 0] bodyr27 := by kernel_rfl
    rw [e]; exact okr27_0

theorem entr27 : EntOk Go.Proofs.Try.prog 27 (funEnt Sr27 Fr27) := fun_ok cr27 (fn := Go.Proofs.Try.f27) (c := bodyr27) (by kernel_rfl) (by kernel_rfl) (by kernel_rfl) rfl rfl (by decide) callsr27
noncomputable def Er27 : List (Nat × Ent) := (27, funEnt Sr27 Fr27) :: Er26
theorem Er27_ok : EntsOk Go.Proofs.Try.prog (ofL Er27) := .cons entr27 Er26_ok

/-! ### barbican/barbicanref08.Centred -/
noncomputable def bodyr40 : Code := (Go.Proofs.Try.f40.body).getD .skip
noncomputable def Fr40 : Int → Option (Int)
  | a0 =>
    if (decide (a0 > 4190208)) = true then
      some (IntKind.i32.wrap (a0 - 8380417))
    else
      some a0

noncomputable def annr40 : Ann := .none
abbrev Sr40 : FSh := ⟨[.val (.c (.int .i32))], [.val (.c (.int .i32))], [.tmp 2]⟩
noncomputable def cr40 : Ctx Go.Proofs.Try.prog := ⟨rtab, ofL Er27, rtabOk, Er27_ok, rdep, rord⟩
theorem eqr40 : ∀ x : psT Sr40.ps, exec rtab (ofL Er27) 8 bodyr40 annr40 (fin rtab Sr40) (argSt Sr40 x) = Fr40 x := by
  intro x
  kernel_rfl
theorem callsr40 : CallsAs Go.Proofs.Try.prog cr40 40 Sr40 Fr40 := by
  refine fun_calls (fn := Go.Proofs.Try.f40) (c := bodyr40) (ann := annr40) cr40 (by kernel_rfl) (by kernel_rfl) (by kernel_rfl) (by decide) (annOk_of_cuts ?_) eqr40
  intro x hx
  exact absurd hx (by show x ∉ ([] : List (List Nat × LEnt)); simp)

theorem entr40 : EntOk Go.Proofs.Try.prog 40 (funEnt Sr40 Fr40) := fun_ok cr40 (fn := Go.Proofs.Try.f40) (c := bodyr40) (by kernel_rfl) (by kernel_rfl) (by kernel_rfl) rfl rfl (by decide) callsr40
noncomputable def Er40 : List (Nat × Ent) := (40, funEnt Sr40 Fr40) :: Er27
theorem Er40_ok : EntsOk Go.Proofs.Try.prog (ofL Er40) := .cons entr40 Er27_ok

/-! ### barbican/barbicanref08.Norm -/
noncomputable def bodyr28 : Code := (Go.Proofs.Try.f28.body).getD .skip
abbrev lr28_0 : Lay := ⟨[(1, .ptr 1 0 256)], [.env 3 (.c (.int .i32)), .env 4 (.c (.int .i64)), .reg 1 (.cells [.ints .i32 256])], [(1, 1)]⟩
abbrev or28_0 : List (AExit × Lay) := [(.exit 0, ⟨[], [.env 3 (.c (.int .i32))], []⟩)]
noncomputable def stepr28_0 : Int × Int × (Nat → Int) → Option ((Int × Int × (Nat → Int)) ⊕ ((Int)))
  | (t3, t4, r1) =>
    if (decide (t4 < 256)) = true then
      if (0 : Int) ≤ t4 ∧ t4 < ((256 : Int) : Int) then
        (Fr40 (r1 t4.toNat)).bind fun y1 =>
          if (decide (y1 < 0)) = true then
            if (decide ((IntKind.i32.wrap (0 - y1)) > t3)) = true then
              some (.inl ((IntKind.i32.wrap (0 - y1)), (IntKind.i64.wrap (t4 + 1)), r1))
            else
              some (.inl (t3, (IntKind.i64.wrap (t4 + 1)), r1))
          else
            if (decide (y1 > t3)) = true then
              some (.inl (y1, (IntKind.i64.wrap (t4 + 1)), r1))
            else
              some (.inl (t3, (IntKind.i64.wrap (t4 + 1)), r1))
      else none
    else
      some (.inr t3)

noncomputable def annr28_0 : Ann := .none
noncomputable def Fr28 : (Nat → Int) → Option (Int)
  | a0 =>
    (loopO stepr28_0 (0, 0, a0)).bind fun z2 =>
      some z2

noncomputable def annr28 : Ann := (.seq .none (.seq .none (.seq (.seq .none (.seq (.cut (cutEnt lr28_0 or28_0 (loopO stepr28_0))) .none)) .none)))
abbrev Sr28 : FSh := ⟨[.val (.agg [.ints .i32 256])], [.val (.c (.int .i32))], [.tmp 2]⟩
noncomputable def cr28 : Ctx Go.Proofs.Try.prog := ⟨rtab, ofL Er40, rtabOk, Er40_ok, rdep, rord⟩
theorem eqr28_0 : ∀ s : lr28_0.T, exec rtab (ofL Er40) 23 (Code.at' [1, 1, 0, 1, 0, 0] bodyr28) annr28_0 (fun e st => loopEnd (l := lr28_0) (outs := or28_0) e st) (lr28_0.enc s) = stepr28_0 s := by
  rintro ⟨t3, t4, r1⟩
  kernel_rfl
theorem okr28_0 : LOk Go.Proofs.Try.prog 23 (cutEnt lr28_0 or28_0 (loopO stepr28_0)) (Code.at' [1, 1, 0, 1, 0] bodyr28) := by
  have e : Code.at' [1, 1, 0, 1, 0] bodyr28 = .loop (Code.at' [1, 1, 0, 1, 0, 0] bodyr28) := by kernel_rfl
  rw [e]
  refine loop_ok cr28 23 rfl rfl (annOk_of_cuts ?_) eqr28_0
  intro x hx
  exact absurd hx (by show x ∉ ([] : List (List Nat × LEnt)); simp)

theorem eqr28 : ∀ x : psT Sr28.ps, exec rtab (ofL Er40) 23 bodyr28 annr28 (fin rtab Sr28) (argSt Sr28 x) = Fr28 x := by
  intro x
  kernel_rfl
theorem callsr28 : CallsAs Go.Proofs.Try.prog cr28 28 Sr28 Fr28 := by
  refine fun_calls (fn := Go.Proofs.Try.f28) (c := bodyr28) (ann := annr28) cr28 (by kernel_rfl) (by kernel_rfl) (by kernel_rfl) (by decide) (annOk_of_cuts ?_) eqr28
  have hc : Ann.cuts annr28 = [([1, 1, 0, 1, 0], (cutEnt lr28_0 or28_0 (loopO stepr28_0)))] := by kernel_rfl
  rw [hc]
  intro x hx
  simp only [List.mem_cons, List.not_mem_nil, or_false] at hx
  rcases hx with rfl
  · have e : Code.at' [1, 1, 0, 1, 0] bodyr28 = Code.at' [1, 1, 0, 1, 0] bodyr28 := by kernel_rfl
    rw [e]; exact okr28_0

theorem entr28 : EntOk Go.Proofs.Try.prog 28 (funEnt Sr28 Fr28) := fun_ok cr28 (fn := Go.Proofs.Try.f28) (c := bodyr28) (by kernel_rfl) (by kernel_rfl) (by kernel_rfl) rfl rfl (by decide) callsr28
noncomputable def Er28 : List (Nat × Ent) := (28, funEnt Sr28 Fr28) :: Er40
theorem Er28_ok : EntsOk Go.Proofs.Try.prog (ofL Er28) := .cons entr28 Er40_ok

/-! ### barbican/barbicanref08.Add -/
noncomputable def bodyr29 : Code := (Go.Proofs.Try.f29.body).getD .skip
abbrev lr29_0 : Lay := ⟨[(3, .ptr 3 0 256), (4, .ptr 4 0 256), (6, .ptr 6 0 256), (7, .ptr 7 0 256)], [.env 2 (.c (.bool)), .env 8 (.c (.int .i64)), .reg 3 (.cells [.ints .i32 256]), .reg 4 (.cells [.ints .i32 256]), .reg 6 (.cells [.ints .i32 256]), .reg 7 (.cells [.ints .i32 256])], [(3, 3), (4, 4), (6, 6), (7, 7)]⟩
abbrev or29_0 : List (AExit × Lay) := [(.exit 0, ⟨[(6, .ptr 6 0 256), (7, .ptr 7 0 256)], [.reg 6 (.cells [.ints .i32 256]), .reg 7 (.cells [.ints .i32 256])], [(6, 6), (7, 7)]⟩)]
noncomputable def stepr29_0 : Bool × Int × (Nat → Int) × (Nat → Int) × (Nat → Int) × (Nat → Int) → Option ((Bool × Int × (Nat → Int) × (Nat → Int) × (Nat → Int) × (Nat → Int)) ⊕ (((Nat → Int) × (Nat → Int))))
  | (t2, t8, r3, r4, r6, r7) =>
    if (decide (t8 < 256)) = true then
      if (0 : Int) ≤ t8 ∧ t8 < ((256 : Int) : Int) then
        if t2 = true then
          if (0 : Int) ≤ t8 ∧ t8 < ((256 : Int) : Int) then
            let x1 : Int := (IntKind.i64.wrap ((IntKind.i64.wrap (r3 t8.toNat)) + (IntKind.i64.wrap (0 - (IntKind.i64.wrap (r4 t8.toNat))))))
            (Fr20 x1).bind fun y2 =>
              if (0 : Int) ≤ t8 ∧ t8 < ((256 : Int) : Int) then
                some (.inl (t2, (IntKind.i64.wrap (t8 + 1)), r3, r4, r6, (upd r7 t8.toNat y2)))
              else none
          else none
        else
          if (0 : Int) ≤ t8 ∧ t8 < ((256 : Int) : Int) then
            let x3 : Int := (IntKind.i64.wrap ((IntKind.i64.wrap (r3 t8.toNat)) + (IntKind.i64.wrap (r4 t8.toNat))))
            (Fr20 x3).bind fun y4 =>
              if (0 : Int) ≤ t8 ∧ t8 < ((256 : Int) : Int) then
                some (.inl (t2, (IntKind.i64.wrap (t8 + 1)), r3, r4, r6, (upd r7 t8.toNat y4)))
              else none
          else none
      else none
    else
      some (.inr (r6, r7))

noncomputable def annr29_0 : Ann := .none
noncomputable def Fr29 : (Nat → Int) × (Nat → Int) × Bool → Option ((Nat → Int))
  | (a0, a1, a2) =>
    (loopO stepr29_0 (a2, 0, a0, a1, (fun _ => 0), (fun _ => 0))).bind fun (z5, z6) =>
      some z6

noncomputable def annr29 : Ann := (.seq .none (.seq .none (.seq (.seq .none (.seq (.cut (cutEnt lr29_0 or29_0 (loopO stepr29_0))) .none)) .none)))
abbrev Sr29 : FSh := ⟨[.val (.agg [.ints .i32 256]), .val (.agg [.ints .i32 256]), .val (.c (.bool))], [.val (.agg [.ints .i32 256])], [.cell 6 23]⟩
noncomputable def cr29 : Ctx Go.Proofs.Try.prog := ⟨rtab, ofL Er28, rtabOk, Er28_ok, rdep, rord⟩
theorem eqr29_0 : ∀ s : lr29_0.T, exec rtab (ofL Er28) 31 (Code.at' [1, 1, 0, 1, 0, 0] bodyr29) annr29_0 (fun e st => loopEnd (l := lr29_0) (outs := or29_0) e st) (lr29_0.enc s) = stepr29_0 s := by
  rintro ⟨t2, t8, r3, r4, r6, r7⟩
  kernel_rfl
theorem okr29_0 : LOk Go.Proofs.Try.prog 31 (cutEnt lr29_0 or29_0 (loopO stepr29_0)) (Code.at' [1, 1, 0, 1, 0] bodyr29) := by
  have e : Code.at' [1, 1, 0, 1, 0] bodyr29 = .loop (Code.at' [1, 1, 0, 1, 0, 0] bodyr29) := by kernel_rfl
  rw [e]
  refine loop_ok cr29 31 rfl rfl (annOk_of_cuts ?_) eqr29_0
  intro x hx
  exact absurd hx (by show x ∉ ([] : List (List Nat × LEnt)); simp)

theorem eqr29 : ∀ x : psT Sr29.ps, exec rtab (ofL Er28) 31 bodyr29 annr29 (fin rtab Sr29) (argSt Sr29 x) = Fr29 x := by
  rintro ⟨a0, a1, a2⟩
  kernel_rfl
theorem callsr29 : CallsAs Go.Proofs.Try.prog cr29 29 Sr29 Fr29 := by
  refine fun_calls (fn := Go.Proofs.Try.f29) (c := bodyr29) (ann := annr29) cr29 (by kernel_rfl) (by kernel_rfl) (by kernel_rfl) (by decide) (annOk_of_cuts ?_) eqr29
  have hc : Ann.cuts annr29 = [([1, 1, 0, 1, 0], (cutEnt lr29_0 or29_0 (loopO stepr29_0)))] := by kernel_rfl
  rw [hc]
  intro x hx
  simp only [List.mem_cons, List.not_mem_nil, or_false] at hx
  rcases hx with rfl
  · have e : Code.at' [1, 1, 0, 1, 0] bodyr29 = Code.at' [1, 1, 0, 1, 0] bodyr29 := by kernel_rfl
    rw [e]; exact okr29_0

theorem entr29 : EntOk Go.Proofs.Try.prog 29 (funEnt Sr29 Fr29) := fun_ok cr29 (fn := Go.Proofs.Try.f29) (c := bodyr29) (by kernel_rfl) (by kernel_rfl) (by kernel_rfl) rfl rfl (by decide) callsr29
noncomputable def Er29 : List (Nat × Ent) := (29, funEnt Sr29 Fr29) :: Er28
theorem Er29_ok : EntsOk Go.Proofs.Try.prog (ofL Er29) := .cons entr29 Er28_ok

/-! ### barbican/barbicanref08.Mul -/
noncomputable def bodyr30 : Code := (Go.Proofs.Try.f30.body).getD .skip
abbrev lr30_1 : Lay := ⟨[(2, .ptr 2 0 256), (3, .ptr 3 0 256), (4, .ptr 4 0 256), (5, .ptr 5 0 256)], [.env 6 (.c (.int .i64)), .env 7 (.c (.int .i64)), .reg 2 (.cells [.ints .i32 256]), .reg 3 (.cells [.ints .i32 256]), .reg 4 (.cells [.ints .i32 256]), .reg 5 (.cells [.ints .i64 256])], [(2, 2), (3, 3), (4, 4), (5, 5)]⟩
abbrev or30_1 : List (AExit × Lay) := [(.exit 2, ⟨[(2, .ptr 2 0 256), (3, .ptr 3 0 256), (4, .ptr 4 0 256), (5, .ptr 5 0 256)], [.env 6 (.c (.int .i64)), .reg 2 (.cells [.ints .i32 256]), .reg 3 (.cells [.ints .i32 256]), .reg 4 (.cells [.ints .i32 256]), .reg 5 (.cells [.ints .i64 256])], [(2, 2), (3, 3), (4, 4), (5, 5)]⟩)]
noncomputable def stepr30_1 : Int × Int × (Nat → Int) × (Nat → Int) × (Nat → Int) × (Nat → Int) → Option ((Int × Int × (Nat → Int) × (Nat → Int) × (Nat → Int) × (Nat → Int)) ⊕ ((Int × (Nat → Int) × (Nat → Int) × (Nat → Int) × (Nat → Int))))
  | (t6, t7, r2, r3, r4, r5) =>
    if (decide (t7 < 256)) = true then
      if (0 : Int) ≤ t6 ∧ t6 < ((256 : Int) : Int) then
        if (0 : Int) ≤ t7 ∧ t7 < ((256 : Int) : Int) then
          let x1 : Int := (IntKind.i64.wrap ((IntKind.i64.wrap (r2 t6.toNat)) * (IntKind.i64.wrap (r3 t7.toNat))))
          if (decide ((IntKind.i64.wrap (t6 + t7)) < 256)) = true then
            if (0 : Int) ≤ (IntKind.i64.wrap (t6 + t7)) ∧ (IntKind.i64.wrap (t6 + t7)) < ((256 : Int) : Int) then
              let x2 : Int := (IntKind.i64.wrap ((r5 (IntKind.i64.wrap (t6 + t7)).toNat) + (x1.tmod 8380417)))
              if (0 : Int) ≤ (IntKind.i64.wrap (t6 + t7)) ∧ (IntKind.i64.wrap (t6 + t7)) < ((256 : Int) : Int) then
                some (.inl (t6, (IntKind.i64.wrap (t7 + 1)), r2, r3, r4, (upd r5 (IntKind.i64.wrap (t6 + t7)).toNat x2)))
              else none
            else none
          else
            if (0 : Int) ≤ (IntKind.i64.wrap ((IntKind.i64.wrap (t6 + t7)) - 256)) ∧ (IntKind.i64.wrap ((IntKind.i64.wrap (t6 + t7)) - 256)) < ((256 : Int) : Int) then
              let x3 : Nat := (IntKind.i64.wrap ((IntKind.i64.wrap (t6 + t7)) - 256)).toNat
              if (0 : Int) ≤ (IntKind.i64.wrap ((IntKind.i64.wrap (t6 + t7)) - 256)) ∧ (IntKind.i64.wrap ((IntKind.i64.wrap (t6 + t7)) - 256)) < ((256 : Int) : Int) then
                let x4 : Nat := (IntKind.i64.wrap ((IntKind.i64.wrap (t6 + t7)) - 256)).toNat
                some (.inl (t6, (IntKind.i64.wrap (t7 + 1)), r2, r3, r4, (upd r5 x4 (IntKind.i64.wrap ((r5 x3) - (x1.tmod 8380417))))))
              else none
            else none
        else none
      else none
    else
      some (.inr (t6, r2, r3, r4, r5))

noncomputable def annr30_1 : Ann := .none
abbrev lr30_0 : Lay := ⟨[(2, .ptr 2 0 256), (3, .ptr 3 0 256), (4, .ptr 4 0 256), (5, .ptr 5 0 256)], [.env 6 (.c (.int .i64)), .reg 2 (.cells [.ints .i32 256]), .reg 3 (.cells [.ints .i32 256]), .reg 4 (.cells [.ints .i32 256]), .reg 5 (.cells [.ints .i64 256])], [(2, 2), (3, 3), (4, 4), (5, 5)]⟩
abbrev or30_0 : List (AExit × Lay) := [(.exit 0, ⟨[(4, .ptr 4 0 256), (5, .ptr 5 0 256)], [.reg 4 (.cells [.ints .i32 256]), .reg 5 (.cells [.ints .i64 256])], [(4, 4), (5, 5)]⟩)]
noncomputable def stepr30_0 : Int × (Nat → Int) × (Nat → Int) × (Nat → Int) × (Nat → Int) → Option ((Int × (Nat → Int) × (Nat → Int) × (Nat → Int) × (Nat → Int)) ⊕ (((Nat → Int) × (Nat → Int))))
  | (t6, r2, r3, r4, r5) =>
    if (decide (t6 < 256)) = true then
      if (0 : Int) ≤ t6 ∧ t6 < ((256 : Int) : Int) then
        if ((r2 t6.toNat) == 0) = true then
          some (.inl ((IntKind.i64.wrap (t6 + 1)), r2, r3, r4, r5))
        else
          (loopO stepr30_1 (t6, 0, r2, r3, r4, r5)).bind fun (z5, z6, z7, z8, z9) =>
            some (.inl ((IntKind.i64.wrap (z5 + 1)), z6, z7, z8, z9))
      else none
    else
      some (.inr (r4, r5))

noncomputable def annr30_0 : Ann := (.seq .none (.seq (.seq (.seq .none (.seq .none (.seq (.cut (cutEnt lr30_1 or30_1 (loopO stepr30_1))) .none))) .none) .none))
abbrev lr30_2 : Lay := ⟨[(4, .ptr 4 0 256), (5, .ptr 5 0 256), (9, .ptr 9 0 256)], [.env 10 (.c (.int .i64)), .reg 4 (.cells [.ints .i32 256]), .reg 5 (.cells [.ints .i64 256]), .reg 9 (.cells [.ints .i32 256])], [(4, 4), (5, 5), (9, 9)]⟩
abbrev or30_2 : List (AExit × Lay) := [(.exit 4, ⟨[(4, .ptr 4 0 256), (9, .ptr 9 0 256)], [.reg 4 (.cells [.ints .i32 256]), .reg 9 (.cells [.ints .i32 256])], [(4, 4), (9, 9)]⟩)]
noncomputable def stepr30_2 : Int × (Nat → Int) × (Nat → Int) × (Nat → Int) → Option ((Int × (Nat → Int) × (Nat → Int) × (Nat → Int)) ⊕ (((Nat → Int) × (Nat → Int))))
  | (t10, r4, r5, r9) =>
    if (decide (t10 < 256)) = true then
      if (0 : Int) ≤ t10 ∧ t10 < ((256 : Int) : Int) then
        (Fr20 (r5 t10.toNat)).bind fun y12 =>
          if (0 : Int) ≤ t10 ∧ t10 < ((256 : Int) : Int) then
            some (.inl ((IntKind.i64.wrap (t10 + 1)), r4, r5, (upd r9 t10.toNat y12)))
          else none
      else none
    else
      some (.inr (r4, r9))

noncomputable def annr30_2 : Ann := .none
noncomputable def Fr30 : (Nat → Int) × (Nat → Int) → Option ((Nat → Int))
  | (a0, a1) =>
    (loopO stepr30_0 (0, a0, a1, (fun _ => 0), (fun _ => 0))).bind fun (z10, z11) =>
      (loopO stepr30_2 (0, z10, z11, (fun _ => 0))).bind fun (z13, z14) =>
        some z14

noncomputable def annr30 : Ann := (.seq .none (.seq .none (.seq (.seq .none (.seq (.cut (cutEnt lr30_0 or30_0 (loopO stepr30_0))) .none)) (.seq .none (.seq (.seq .none (.seq (.cut (cutEnt lr30_2 or30_2 (loopO stepr30_2))) .none)) .none)))))
abbrev Sr30 : FSh := ⟨[.val (.agg [.ints .i32 256]), .val (.agg [.ints .i32 256])], [.val (.agg [.ints .i32 256])], [.cell 4 23]⟩
noncomputable def cr30 : Ctx Go.Proofs.Try.prog := ⟨rtab, ofL Er29, rtabOk, Er29_ok, rdep, rord⟩
theorem eqr30_1 : ∀ s : lr30_1.T, exec rtab (ofL Er29) 72 (Code.at' [1, 1, 0, 1, 0, 0, 1, 0, 0, 1, 1, 0, 0] bodyr30) annr30_1 (fun e st => loopEnd (l := lr30_1) (outs := or30_1) e st) (lr30_1.enc s) = stepr30_1 s := by
  rintro ⟨t6, t7, r2, r3, r4, r5⟩
  kernel_rfl
theorem okr30_1 : LOk Go.Proofs.Try.prog 72 (cutEnt lr30_1 or30_1 (loopO stepr30_1)) (Code.at' [1, 1, 0, 1, 0, 0, 1, 0, 0, 1, 1, 0] bodyr30) := by
  have e : Code.at' [1, 1, 0, 1, 0, 0, 1, 0, 0, 1, 1, 0] bodyr30 = .loop (Code.at' [1, 1, 0, 1, 0, 0, 1, 0, 0, 1, 1, 0, 0] bodyr30) := by kernel_rfl
  rw [e]
  refine loop_ok cr30 72 rfl rfl (annOk_of_cuts ?_) eqr30_1
  intro x hx
  exact absurd hx (by show x ∉ ([] : List (List Nat × LEnt)); simp)

theorem eqr30_0 : ∀ s : lr30_0.T, exec rtab (ofL Er29) 72 (Code.at' [1, 1, 0, 1, 0, 0] bodyr30) annr30_0 (fun e st => loopEnd (l := lr30_0) (outs := or30_0) e st) (lr30_0.enc s) = stepr30_0 s := by
  rintro ⟨t6, r2, r3, r4, r5⟩
  kernel_rfl
theorem okr30_0 : LOk Go.Proofs.Try.prog 72 (cutEnt lr30_0 or30_0 (loopO stepr30_0)) (Code.at' [1, 1, 0, 1, 0] bodyr30) := by
  have e : Code.at' [1, 1, 0, 1, 0] bodyr30 = .loop (Code.at' [1, 1, 0, 1, 0, 0] bodyr30) := by kernel_rfl
  rw [e]
  refine loop_ok cr30 72 rfl rfl (annOk_of_cuts ?_) eqr30_0
  have hc : Ann.cuts annr30_0 = [([1, 0, 0, 1, 1, 0], (cutEnt lr30_1 or30_1 (loopO stepr30_1)))] := by kernel_rfl
  rw [hc]
  intro x hx
  simp only [List.mem_cons, List.not_mem_nil, or_false] at hx
  rcases hx with rfl
  · have e : Code.at' [1, 0, 0, 1, 1, 0] (Code.at' [1, 1, 0, 1, 0, 0] bodyr30) = Code.at' [1, 1, 0, 1, 0, 0, 1, 0, 0, 1, 1, 0] bodyr30 := by kernel_rfl
    rw [e]; exact okr30_1

theorem eqr30_2 : ∀ s : lr30_2.T, exec rtab (ofL Er29) 72 (Code.at' [1, 1, 1, 1, 0, 1, 0, 0] bodyr30) annr30_2 (fun e st => loopEnd (l := lr30_2) (outs := or30_2) e st) (lr30_2.enc s) = stepr30_2 s := by
  rintro ⟨t10, r4, r5, r9⟩
  kernel_rfl
theorem okr30_2 : LOk Go.Proofs.Try.prog 72 (cutEnt lr30_2 or30_2 (loopO stepr30_2)) (Code.at' [1, 1, 1, 1, 0, 1, 0] bodyr30) := by
  have e : Code.at' [1, 1, 1, 1, 0, 1, 0] bodyr30 = .loop (Code.at' [1, 1, 1, 1, 0, 1, 0, 0] bodyr30) := by kernel_rfl
  rw [e]
  refine loop_ok cr30 72 rfl rfl (annOk_of_cuts ?_) eqr30_2
  intro x hx
  exact absurd hx (by show x ∉ ([] : List (List Nat × LEnt)); simp)

theorem eqr30 : ∀ x : psT Sr30.ps, exec rtab (ofL Er29) 72 bodyr30 annr30 (fin rtab Sr30) (argSt Sr30 x) = Fr30 x := by
  rintro ⟨a0, a1⟩
  kernel_rfl
theorem callsr30 : CallsAs Go.Proofs.Try.prog cr30 30 Sr30 Fr30 := by
  refine fun_calls (fn := Go.Proofs.Try.f30) (c := bodyr30) (ann := annr30) cr30 (by kernel_rfl) (by kernel_rfl) (by kernel_rfl) (by decide) (annOk_of_cuts ?_) eqr30
  have hc : Ann.cuts annr30 = [([1, 1, 0, 1, 0], (cutEnt lr30_0 or30_0 (loopO stepr30_0))), ([1, 1, 1, 1, 0, 1, 0], (cutEnt lr30_2 or30_2 (loopO stepr30_2)))] := by kernel_rfl
  rw [hc]
  intro x hx
  simp only [List.mem_cons, List.not_mem_nil, or_false] at hx
  rcases hx with rfl | rfl
  · have e : Code.at' [1, 1, 0, 1, 0] bodyr30 = Code.at' [1, 1, 0, 1, 0] bodyr30 := by kernel_rfl
    rw [e]; exact okr30_0
  · have e : Code.at' [1, 1, 1, 1, 0, 1, 0] bodyr30 = Code.at' [1, 1, 1, 1, 0, 1, 0] bodyr30 := by kernel_rfl
    rw [e]; exact okr30_2

theorem entr30 : EntOk Go.Proofs.Try.prog 30 (funEnt Sr30 Fr30) := fun_ok cr30 (fn := Go.Proofs.Try.f30) (c := bodyr30) (by kernel_rfl) (by kernel_rfl) (by kernel_rfl) rfl rfl (by decide) callsr30
noncomputable def Er30 : List (Nat × Ent) := (30, funEnt Sr30 Fr30) :: Er29
theorem Er30_ok : EntsOk Go.Proofs.Try.prog (ofL Er30) := .cons entr30 Er29_ok

/-! ### barbican/barbicanref08.Times -/
noncomputable def bodyr31 : Code := (Go.Proofs.Try.f31.body).getD .skip
abbrev lr31_0 : Lay := ⟨[(2, .ptr 2 0 256), (3, .ptr 3 0 256), (4, .ptr 4 0 256), (5, .ptr 5 0 256)], [.env 6 (.c (.int .i64)), .reg 2 (.cells [.ints .i32 256]), .reg 3 (.cells [.ints .i32 256]), .reg 4 (.cells [.ints .i32 256]), .reg 5 (.cells [.ints .i32 256])], [(2, 2), (3, 3), (4, 4), (5, 5)]⟩
abbrev or31_0 : List (AExit × Lay) := [(.exit 0, ⟨[(4, .ptr 4 0 256), (5, .ptr 5 0 256)], [.reg 4 (.cells [.ints .i32 256]), .reg 5 (.cells [.ints .i32 256])], [(4, 4), (5, 5)]⟩)]
noncomputable def stepr31_0 : Int × (Nat → Int) × (Nat → Int) × (Nat → Int) × (Nat → Int) → Option ((Int × (Nat → Int) × (Nat → Int) × (Nat → Int) × (Nat → Int)) ⊕ (((Nat → Int) × (Nat → Int))))
  | (t6, r2, r3, r4, r5) =>
    if (decide (t6 < 256)) = true then
      if (0 : Int) ≤ t6 ∧ t6 < ((256 : Int) : Int) then
        if (0 : Int) ≤ t6 ∧ t6 < ((256 : Int) : Int) then
          let x1 : Int := (IntKind.i64.wrap ((IntKind.i64.wrap (r2 t6.toNat)) * (IntKind.i64.wrap (r3 t6.toNat))))
          (Fr20 x1).bind fun y2 =>
            if (0 : Int) ≤ t6 ∧ t6 < ((256 : Int) : Int) then
              some (.inl ((IntKind.i64.wrap (t6 + 1)), r2, r3, r4, (upd r5 t6.toNat y2)))
            else none
        else none
      else none
    else
      some (.inr (r4, r5))

noncomputable def annr31_0 : Ann := .none
noncomputable def Fr31 : (Nat → Int) × (Nat → Int) → Option ((Nat → Int))
  | (a0, a1) =>
    (loopO stepr31_0 (0, a0, a1, (fun _ => 0), (fun _ => 0))).bind fun (z3, z4) =>
      some z4

noncomputable def annr31 : Ann := (.seq .none (.seq .none (.seq (.seq .none (.seq (.cut (cutEnt lr31_0 or31_0 (loopO stepr31_0))) .none)) .none)))
abbrev Sr31 : FSh := ⟨[.val (.agg [.ints .i32 256]), .val (.agg [.ints .i32 256])], [.val (.agg [.ints .i32 256])], [.cell 4 23]⟩
noncomputable def cr31 : Ctx Go.Proofs.Try.prog := ⟨rtab, ofL Er30, rtabOk, Er30_ok, rdep, rord⟩
theorem eqr31_0 : ∀ s : lr31_0.T, exec rtab (ofL Er30) 24 (Code.at' [1, 1, 0, 1, 0, 0] bodyr31) annr31_0 (fun e st => loopEnd (l := lr31_0) (outs := or31_0) e st) (lr31_0.enc s) = stepr31_0 s := by
  rintro ⟨t6, r2, r3, r4, r5⟩
  kernel_rfl
theorem okr31_0 : LOk Go.Proofs.Try.prog 24 (cutEnt lr31_0 or31_0 (loopO stepr31_0)) (Code.at' [1, 1, 0, 1, 0] bodyr31) := by
  have e : Code.at' [1, 1, 0, 1, 0] bodyr31 = .loop (Code.at' [1, 1, 0, 1, 0, 0] bodyr31) := by kernel_rfl
  rw [e]
  refine loop_ok cr31 24 rfl rfl (annOk_of_cuts ?_) eqr31_0
  intro x hx
  exact absurd hx (by show x ∉ ([] : List (List Nat × LEnt)); simp)

theorem eqr31 : ∀ x : psT Sr31.ps, exec rtab (ofL Er30) 24 bodyr31 annr31 (fin rtab Sr31) (argSt Sr31 x) = Fr31 x := by
  rintro ⟨a0, a1⟩
  kernel_rfl
theorem callsr31 : CallsAs Go.Proofs.Try.prog cr31 31 Sr31 Fr31 := by
  refine fun_calls (fn := Go.Proofs.Try.f31) (c := bodyr31) (ann := annr31) cr31 (by kernel_rfl) (by kernel_rfl) (by kernel_rfl) (by decide) (annOk_of_cuts ?_) eqr31
  have hc : Ann.cuts annr31 = [([1, 1, 0, 1, 0], (cutEnt lr31_0 or31_0 (loopO stepr31_0)))] := by kernel_rfl
  rw [hc]
  intro x hx
  simp only [List.mem_cons, List.not_mem_nil, or_false] at hx
  rcases hx with rfl
  · have e : Code.at' [1, 1, 0, 1, 0] bodyr31 = Code.at' [1, 1, 0, 1, 0] bodyr31 := by kernel_rfl
    rw [e]; exact okr31_0

theorem entr31 : EntOk Go.Proofs.Try.prog 31 (funEnt Sr31 Fr31) := fun_ok cr31 (fn := Go.Proofs.Try.f31) (c := bodyr31) (by kernel_rfl) (by kernel_rfl) (by kernel_rfl) rfl rfl (by decide) callsr31
noncomputable def Er31 : List (Nat × Ent) := (31, funEnt Sr31 Fr31) :: Er30
theorem Er31_ok : EntsOk Go.Proofs.Try.prog (ofL Er31) := .cons entr31 Er30_ok

/-! ### barbican/barbicanlaw08.RingSums -/
noncomputable def bodyr7 : Code := (Go.Proofs.Try.f7.body).getD .skip
noncomputable def Fr7 : (Nat → Int) × (Nat → Int) → Option (Bool)
  | (a0, a1) =>
    (Fr8 ()).bind fun y1 =>
      (Fr22 (a0, a1)).bind fun (y2, y3) =>
        (Fr24 (a0, a1)).bind fun (y4, y5) =>
          (Fr23 (a0, a1)).bind fun (y6, y7) =>
            (Fr25 (a0, a1)).bind fun (y8, y9) =>
              (Fr26 a0).bind fun (y10, y11) =>
                (Fr21 a0).bind fun y12 =>
                  (Fr11 a0).bind fun y13 =>
                    (Fr11 a1).bind fun y14 =>
                      if (!y1) = false then
                        (Fr27 a0).bind fun y15 =>
                          if (!(arrEq 256 y12 y15)) = false then
                            if y13 = true then
                              if (y11 != 0) = false then
                                (Fr28 a0).bind fun y16 =>
                                  if (y10 != y16) = false then
                                    if (!y13) = true then
                                      if (y11 != 81) = false then
                                        if (y10 != 0) = true then
                                          some false
                                        else
                                          if (!y13) = false then
                                            if (!y14) = true then
                                              if (y3 == 81) = true then
                                                if (y5 == y3) = true then
                                                  if (y7 == y3) = true then
                                                    if (y9 == y3) = true then
                                                      if (arrEq 256 y2 (fun _ => 0)) = true then
                                                        if (arrEq 256 y4 (fun _ => 0)) = true then
                                                          if (arrEq 256 y6 (fun _ => 0)) = true then
                                                            some (arrEq 256 y8 (fun _ => 0))
                                                          else
                                                            some false
                                                        else
                                                          some false
                                                      else
                                                        some false
                                                    else
                                                      some false
                                                  else
                                                    some false
                                                else
                                                  some false
                                              else
                                                some false
                                            else
                                              if (y3 == 0) = true then
                                                if (y5 == y3) = true then
                                                  if (y7 == y3) = true then
                                                    if (y9 == y3) = true then
                                                      (Fr29 (a0, a1, false)).bind fun y17 =>
                                                        if (arrEq 256 y2 y17) = true then
                                                          (Fr29 (a0, a1, true)).bind fun y18 =>
                                                            if (arrEq 256 y4 y18) = true then
                                                              (Fr30 (a0, a1)).bind fun y19 =>
                                                                if (arrEq 256 y6 y19) = true then
                                                                  (Fr31 (a0, a1)).bind fun y20 =>
                                                                    some (arrEq 256 y8 y20)
                                                                else
                                                                  some false
                                                            else
                                                              some false
                                                        else
                                                          some false
                                                    else
                                                      some false
                                                  else
                                                    some false
                                                else
                                                  some false
                                              else
                                                some false
                                          else
                                            if (y3 == 81) = true then
                                              if (y5 == y3) = true then
                                                if (y7 == y3) = true then
                                                  if (y9 == y3) = true then
                                                    if (arrEq 256 y2 (fun _ => 0)) = true then
                                                      if (arrEq 256 y4 (fun _ => 0)) = true then
                                                        if (arrEq 256 y6 (fun _ => 0)) = true then
                                                          some (arrEq 256 y8 (fun _ => 0))
                                                        else
                                                          some false
                                                      else
                                                        some false
                                                    else
                                                      some false
                                                  else
                                                    some false
                                                else
                                                  some false
                                              else
                                                some false
                                            else
                                              some false
                                      else
                                        some false
                                    else
                                      if (!y13) = false then
                                        if (!y14) = true then
                                          if (y3 == 81) = true then
                                            if (y5 == y3) = true then
                                              if (y7 == y3) = true then
                                                if (y9 == y3) = true then
                                                  if (arrEq 256 y2 (fun _ => 0)) = true then
                                                    if (arrEq 256 y4 (fun _ => 0)) = true then
                                                      if (arrEq 256 y6 (fun _ => 0)) = true then
                                                        some (arrEq 256 y8 (fun _ => 0))
                                                      else
                                                        some false
                                                    else
                                                      some false
                                                  else
                                                    some false
                                                else
                                                  some false
                                              else
                                                some false
                                            else
                                              some false
                                          else
                                            some false
                                        else
                                          if (y3 == 0) = true then
                                            if (y5 == y3) = true then
                                              if (y7 == y3) = true then
                                                if (y9 == y3) = true then
                                                  (Fr29 (a0, a1, false)).bind fun y21 =>
                                                    if (arrEq 256 y2 y21) = true then
                                                      (Fr29 (a0, a1, true)).bind fun y22 =>
                                                        if (arrEq 256 y4 y22) = true then
                                                          (Fr30 (a0, a1)).bind fun y23 =>
                                                            if (arrEq 256 y6 y23) = true then
                                                              (Fr31 (a0, a1)).bind fun y24 =>
                                                                some (arrEq 256 y8 y24)
                                                            else
                                                              some false
                                                        else
                                                          some false
                                                    else
                                                      some false
                                                else
                                                  some false
                                              else
                                                some false
                                            else
                                              some false
                                          else
                                            some false
                                      else
                                        if (y3 == 81) = true then
                                          if (y5 == y3) = true then
                                            if (y7 == y3) = true then
                                              if (y9 == y3) = true then
                                                if (arrEq 256 y2 (fun _ => 0)) = true then
                                                  if (arrEq 256 y4 (fun _ => 0)) = true then
                                                    if (arrEq 256 y6 (fun _ => 0)) = true then
                                                      some (arrEq 256 y8 (fun _ => 0))
                                                    else
                                                      some false
                                                  else
                                                    some false
                                                else
                                                  some false
                                              else
                                                some false
                                            else
                                              some false
                                          else
                                            some false
                                        else
                                          some false
                                  else
                                    some false
                              else
                                some false
                            else
                              if (!y13) = true then
                                if (y11 != 81) = false then
                                  if (y10 != 0) = true then
                                    some false
                                  else
                                    if (!y13) = false then
                                      if (!y14) = true then
                                        if (y3 == 81) = true then
                                          if (y5 == y3) = true then
                                            if (y7 == y3) = true then
                                              if (y9 == y3) = true then
                                                if (arrEq 256 y2 (fun _ => 0)) = true then
                                                  if (arrEq 256 y4 (fun _ => 0)) = true then
                                                    if (arrEq 256 y6 (fun _ => 0)) = true then
                                                      some (arrEq 256 y8 (fun _ => 0))
                                                    else
                                                      some false
                                                  else
                                                    some false
                                                else
                                                  some false
                                              else
                                                some false
                                            else
                                              some false
                                          else
                                            some false
                                        else
                                          some false
                                      else
                                        if (y3 == 0) = true then
                                          if (y5 == y3) = true then
                                            if (y7 == y3) = true then
                                              if (y9 == y3) = true then
                                                (Fr29 (a0, a1, false)).bind fun y25 =>
                                                  if (arrEq 256 y2 y25) = true then
                                                    (Fr29 (a0, a1, true)).bind fun y26 =>
                                                      if (arrEq 256 y4 y26) = true then
                                                        (Fr30 (a0, a1)).bind fun y27 =>
                                                          if (arrEq 256 y6 y27) = true then
                                                            (Fr31 (a0, a1)).bind fun y28 =>
                                                              some (arrEq 256 y8 y28)
                                                          else
                                                            some false
                                                      else
                                                        some false
                                                  else
                                                    some false
                                              else
                                                some false
                                            else
                                              some false
                                          else
                                            some false
                                        else
                                          some false
                                    else
                                      if (y3 == 81) = true then
                                        if (y5 == y3) = true then
                                          if (y7 == y3) = true then
                                            if (y9 == y3) = true then
                                              if (arrEq 256 y2 (fun _ => 0)) = true then
                                                if (arrEq 256 y4 (fun _ => 0)) = true then
                                                  if (arrEq 256 y6 (fun _ => 0)) = true then
                                                    some (arrEq 256 y8 (fun _ => 0))
                                                  else
                                                    some false
                                                else
                                                  some false
                                              else
                                                some false
                                            else
                                              some false
                                          else
                                            some false
                                        else
                                          some false
                                      else
                                        some false
                                else
                                  some false
                              else
                                if (!y13) = false then
                                  if (!y14) = true then
                                    if (y3 == 81) = true then
                                      if (y5 == y3) = true then
                                        if (y7 == y3) = true then
                                          if (y9 == y3) = true then
                                            if (arrEq 256 y2 (fun _ => 0)) = true then
                                              if (arrEq 256 y4 (fun _ => 0)) = true then
                                                if (arrEq 256 y6 (fun _ => 0)) = true then
                                                  some (arrEq 256 y8 (fun _ => 0))
                                                else
                                                  some false
                                              else
                                                some false
                                            else
                                              some false
                                          else
                                            some false
                                        else
                                          some false
                                      else
                                        some false
                                    else
                                      some false
                                  else
                                    if (y3 == 0) = true then
                                      if (y5 == y3) = true then
                                        if (y7 == y3) = true then
                                          if (y9 == y3) = true then
                                            (Fr29 (a0, a1, false)).bind fun y29 =>
                                              if (arrEq 256 y2 y29) = true then
                                                (Fr29 (a0, a1, true)).bind fun y30 =>
                                                  if (arrEq 256 y4 y30) = true then
                                                    (Fr30 (a0, a1)).bind fun y31 =>
                                                      if (arrEq 256 y6 y31) = true then
                                                        (Fr31 (a0, a1)).bind fun y32 =>
                                                          some (arrEq 256 y8 y32)
                                                      else
                                                        some false
                                                  else
                                                    some false
                                              else
                                                some false
                                          else
                                            some false
                                        else
                                          some false
                                      else
                                        some false
                                    else
                                      some false
                                else
                                  if (y3 == 81) = true then
                                    if (y5 == y3) = true then
                                      if (y7 == y3) = true then
                                        if (y9 == y3) = true then
                                          if (arrEq 256 y2 (fun _ => 0)) = true then
                                            if (arrEq 256 y4 (fun _ => 0)) = true then
                                              if (arrEq 256 y6 (fun _ => 0)) = true then
                                                some (arrEq 256 y8 (fun _ => 0))
                                              else
                                                some false
                                            else
                                              some false
                                          else
                                            some false
                                        else
                                          some false
                                      else
                                        some false
                                    else
                                      some false
                                  else
                                    some false
                          else
                            some false
                      else
                        some false

noncomputable def annr7 : Ann := .none
abbrev Sr7 : FSh := ⟨[.val (.agg [.ints .i32 256]), .val (.agg [.ints .i32 256])], [.val (.c (.bool))], [.tmp 4]⟩
noncomputable def cr7 : Ctx Go.Proofs.Try.prog := ⟨rtab, ofL Er31, rtabOk, Er31_ok, rdep, rord⟩
theorem eqr7 : ∀ x : psT Sr7.ps, exec rtab (ofL Er31) 178 bodyr7 annr7 (fin rtab Sr7) (argSt Sr7 x) = Fr7 x := by
  rintro ⟨a0, a1⟩
  kernel_rfl
theorem callsr7 : CallsAs Go.Proofs.Try.prog cr7 7 Sr7 Fr7 := by
  refine fun_calls (fn := Go.Proofs.Try.f7) (c := bodyr7) (ann := annr7) cr7 (by kernel_rfl) (by kernel_rfl) (by kernel_rfl) (by decide) (annOk_of_cuts ?_) eqr7
  intro x hx
  exact absurd hx (by show x ∉ ([] : List (List Nat × LEnt)); simp)

theorem entr7 : EntOk Go.Proofs.Try.prog 7 (funEnt Sr7 Fr7) := fun_ok cr7 (fn := Go.Proofs.Try.f7) (c := bodyr7) (by kernel_rfl) (by kernel_rfl) (by kernel_rfl) rfl rfl (by decide) callsr7
noncomputable def Er7 : List (Nat × Ent) := (7, funEnt Sr7 Fr7) :: Er31
theorem Er7_ok : EntsOk Go.Proofs.Try.prog (ofL Er7) := .cons entr7 Er31_ok
end Go.Abs
