import Derived.Test.YtlloghihfigalaaAbsIo4
import Derived.Test.YtlloghihfigalaaAbsExt
import Derived.Test.YtlloghihfigalaaChecked
import Derived.KernelRfl
set_option linter.unusedVariables false
set_option maxRecDepth 100000
namespace Go.Abs
def ktab : Tab := [
  (3, ⟨.int .i64, 1, 8, [.int .i64 0]⟩),
  (4, ⟨.bool, 1, 1, [.bool false]⟩),
  (5, ⟨.int .u8, 1, 1, [.int .u8 0]⟩),
  (9, ⟨.str, 1, 16, [.str ByteArray.empty]⟩),
  (22, ⟨.int .u64, 1, 8, [.int .u64 0]⟩),
  (23, ⟨.array 25 22, 25, 200, [.ints .u64 25 (fun _ => 0)]⟩),
  (27, ⟨.slice 33, 1, 24, [.val (.slice none 0 0)]⟩),
  (28, ⟨.slice 3, 1, 24, [.val (.slice none 0 0)]⟩),
  (29, ⟨.ptr, 1, 8, [.val (.pointer none)]⟩),
  (33, ⟨.slice 5, 1, 24, [.val (.slice none 0 0)]⟩),
  (41, ⟨.array 32 5, 32, 32, [.ints .u8 32 (fun _ => 0)]⟩),
  (43, ⟨.array 64 5, 64, 64, [.ints .u8 64 (fun _ => 0)]⟩),
  (61, ⟨.array 5 22, 5, 40, [.ints .u64 5 (fun _ => 0)]⟩),
  (64, ⟨.int .u64, 1, 8, [.int .u64 0]⟩),
  (65, ⟨.array 25 3, 25, 200, [.ints .i64 25 (fun _ => 0)]⟩),
  (67, ⟨.array 24 22, 24, 192, [.ints .u64 24 (fun _ => 0)]⟩),
  (70, ⟨.struct [(3, 0), (23, 1), (3, 26), (4, 27), (3, 28)], 29, 232, [.int .i64 0, .ints .u64 25 (fun _ => 0), .int .i64 0, .bool false, .int .i64 0]⟩),
  (73, ⟨.struct [(3, 0), (33, 1), (4, 2), (3, 3), (23, 4), (3, 29)], 30, 256, [.int .i64 0, .val (.slice none 0 0), .bool false, .int .i64 0, .ints .u64 25 (fun _ => 0), .int .i64 0]⟩)]
theorem ktabOk : TabOk Go.Proofs.Try.prog ktab := tabChk_ok (by kernel_rfl)
theorem kdep : 4 ≤ (Go.Proofs.Try.prog).depth := by
  have : Nat.ble 4 ((Go.Proofs.Try.prog).depth) = true := by kernel_rfl
  exact Nat.le_of_ble_eq_true this
theorem kord : (Go.Proofs.Try.prog).follows .mixedOrders = true := by kernel_rfl
def kstr0 : ByteArray := ⟨#[0, 32, 48, 64, 0, 0]⟩
def kstr1 : ByteArray := ⟨#[0, 136, 104, 72, 168, 136]⟩
def kstr2 : ByteArray := ⟨#[0, 6, 6, 6, 31, 31]⟩
noncomputable def kE0 : List (Nat × Ent) := []
theorem kE0_ok : EntsOk Go.Proofs.Try.prog (ofL kE0) := .nil _

/-! ### barbican/keccak.New -/
noncomputable def bodyk11 : Code := (Go.Proofs.Try.f11.body).getD .skip
noncomputable def Fk11 : Int → Option (((Int × (Nat → Int) × Int × Bool × Int) × Int) ⊕ (Unit × Int))
  | a0 =>
    if (decide (a0 < 1)) = false then
      if (decide (a0 > 5)) = true then
        some (.inr ((), 31))
      else
        if 0 ≤ a0 ∧ a0 < (kstr0.size : Int) then
          if ((IntKind.i64.wrap (strAt kstr0 a0)) == 0) = true then
            some (.inl ((a0, (fun _ => 0), 0, false, (-1)), 0))
          else
            some (.inl ((a0, (fun _ => 0), 0, false, (IntKind.i64.wrap (strAt kstr0 a0))), 0))
        else none
    else
      some (.inr ((), 31))

noncomputable def annk11 : Ann := .none
abbrev Sk11 : FI := ⟨none, [.val (.c (.int .i64))], [.newp [.int .i64, .ints .u64 25, .int .i64, .bool, .int .i64], .val (.c (.int .i64))], (some [.val (.c (.nilp)), .val (.c (.int .i64))]), [.tmp 2, .tmp 3]⟩
noncomputable def ck11 : Ctx Go.Proofs.Try.prog := ⟨ktab, ofL kE0, ktabOk, kE0_ok, kdep, kord⟩
theorem eqk11 : ∀ x : inT Sk11, exec ktab (ofL kE0) 26 bodyk11 annk11 (finI ktab Sk11) (argStI Sk11 x) = Fk11 x := by
  intro x
  kernel_rfl
theorem callsk11 : CallsI Go.Proofs.Try.prog 11 Sk11 Fk11 := by
  refine fun_callsI (fn := Go.Proofs.Try.f11) (c := bodyk11) (ann := annk11) ck11 (by kernel_rfl) (by kernel_rfl) (by kernel_rfl) (Nat.le_of_ble_eq_true (by kernel_rfl)) (annOk_of_cuts ?_) eqk11
  intro x hx
  exact absurd hx (by show x ∉ ([] : List (List Nat × LEnt)); simp)

theorem entk11 : EntOk Go.Proofs.Try.prog 11 (funEntI Sk11 Fk11) := fun_okI (fn := Go.Proofs.Try.f11) (c := bodyk11) (by kernel_rfl) (by kernel_rfl) (by kernel_rfl) (by kernel_rfl) (by kernel_rfl) callsk11
noncomputable def Ek11 : List (Nat × Ent) := (11, funEntI Sk11 Fk11) :: kE0
theorem Ek11_ok : EntsOk Go.Proofs.Try.prog (ofL Ek11) := .cons entk11 kE0_ok

/-! ### (*barbican/keccak.Sponge).mix -/
noncomputable def bodyk30 : Code := (Go.Proofs.Try.f30.body).getD .skip
noncomputable def Fk30 : (Int × (Nat → Int) × Int × Bool × Int) × Int × Int → Option ((Unit) × (Int × (Nat → Int) × Int × Bool × Int))
  | (io, a1, a2) =>
    if (0 : Int) ≤ (IntKind.i64.wrap (a1.tdiv 8)) ∧ (IntKind.i64.wrap (a1.tdiv 8)) < ((25 : Int) : Int) then
      if 0 ≤ (IntKind.i64.wrap (8 * (a1.tmod 8))) then
        let x1 : Int := (shlI .u64 (IntKind.u64.wrap a2) (IntKind.i64.wrap (8 * (a1.tmod 8))))
        let x2 : Int := (bitsXor .u64 (io.2.1 (IntKind.i64.wrap (a1.tdiv 8)).toNat) x1)
        if (0 : Int) ≤ (IntKind.i64.wrap (a1.tdiv 8)) ∧ (IntKind.i64.wrap (a1.tdiv 8)) < ((25 : Int) : Int) then
          some ((), (io.1, (upd io.2.1 (IntKind.i64.wrap (a1.tdiv 8)).toNat x2), io.2.2.1, io.2.2.2.1, io.2.2.2.2))
        else none
      else none
    else none

noncomputable def annk30 : Ann := .none
abbrev Sk30 : FI := ⟨(some [.int .i64, .ints .u64 25, .int .i64, .bool, .int .i64]), [.val (.c (.int .i64)), .val (.c (.int .u8))], [], none, []⟩
noncomputable def ck30 : Ctx Go.Proofs.Try.prog := ⟨ktab, ofL Ek11, ktabOk, Ek11_ok, kdep, kord⟩
theorem eqk30 : ∀ x : inT Sk30, exec ktab (ofL Ek11) 23 bodyk30 annk30 (finI ktab Sk30) (argStI Sk30 x) = Fk30 x := by
  rintro ⟨io, a1, a2⟩
  kernel_rfl
theorem callsk30 : CallsI Go.Proofs.Try.prog 30 Sk30 Fk30 := by
  refine fun_callsI (fn := Go.Proofs.Try.f30) (c := bodyk30) (ann := annk30) ck30 (by kernel_rfl) (by kernel_rfl) (by kernel_rfl) (Nat.le_of_ble_eq_true (by kernel_rfl)) (annOk_of_cuts ?_) eqk30
  intro x hx
  exact absurd hx (by show x ∉ ([] : List (List Nat × LEnt)); simp)

theorem entk30 : EntOk Go.Proofs.Try.prog 30 (funEntI Sk30 Fk30) := fun_okI (fn := Go.Proofs.Try.f30) (c := bodyk30) (by kernel_rfl) (by kernel_rfl) (by kernel_rfl) (by kernel_rfl) (by kernel_rfl) callsk30
noncomputable def Ek30 : List (Nat × Ent) := (30, funEntI Sk30 Fk30) :: Ek11
theorem Ek30_ok : EntsOk Go.Proofs.Try.prog (ofL Ek30) := .cons entk30 Ek11_ok

/-! ### math/bits.RotateLeft64 -/
noncomputable def bodyk26 : Code := (Go.Proofs.Try.f26.body).getD .skip
noncomputable def Fk26 : Int × Int → Option (Int)
  | (a0, a1) =>
    if 0 ≤ (bitsAnd .u64 (IntKind.u64.wrap a1) 63) then
      let x1 : Int := (IntKind.u64.wrap (64 - (bitsAnd .u64 (IntKind.u64.wrap a1) 63)))
      if 0 ≤ x1 then
        let x2 : Int := (bitsOr .u64 (shlI .u64 a0 (bitsAnd .u64 (IntKind.u64.wrap a1) 63)) (shrI .u64 a0 x1))
        some x2
      else none
    else none

noncomputable def annk26 : Ann := .none
abbrev Sk26 : FSh := ⟨[.val (.c (.int .u64)), .val (.c (.int .i64))], [.val (.c (.int .u64))], [.tmp 4]⟩
noncomputable def ck26 : Ctx Go.Proofs.Try.prog := ⟨ktab, ofL Ek30, ktabOk, Ek30_ok, kdep, kord⟩
theorem eqk26 : ∀ x : psT Sk26.ps, exec ktab (ofL Ek30) 17 bodyk26 annk26 (fin ktab Sk26) (argSt Sk26 x) = Fk26 x := by
  rintro ⟨a0, a1⟩
  kernel_rfl
theorem callsk26 : CallsAs Go.Proofs.Try.prog ck26 26 Sk26 Fk26 := by
  refine fun_calls (fn := Go.Proofs.Try.f26) (c := bodyk26) (ann := annk26) ck26 (by kernel_rfl) (by kernel_rfl) (by kernel_rfl) (by decide) (annOk_of_cuts ?_) eqk26
  intro x hx
  exact absurd hx (by show x ∉ ([] : List (List Nat × LEnt)); simp)

theorem entk26 : EntOk Go.Proofs.Try.prog 26 (funEnt Sk26 Fk26) := fun_ok ck26 (fn := Go.Proofs.Try.f26) (c := bodyk26) (by kernel_rfl) (by kernel_rfl) (by kernel_rfl) rfl rfl (by decide) callsk26
noncomputable def Ek26 : List (Nat × Ent) := (26, funEnt Sk26 Fk26) :: Ek30
theorem Ek26_ok : EntsOk Go.Proofs.Try.prog (ofL Ek26) := .cons entk26 Ek30_ok

/-! ### barbican/keccak.Permute -/
noncomputable def bodyk9 : Code := (Go.Proofs.Try.f9.body).getD .skip
abbrev lk9_1 : Lay := ⟨[(1, .ptr 1 0 25), (2, .ptr 2 0 25), (4, .ptr 4 0 5)], [.env 3 (.c (.int .u8)), .env 17 (.c (.int .i64)), .env 19 (.agg [.ints .u64 25]), .env 20 (.c (.int .i64)), .reg 1 (.cells [.ints .u64 25]), .reg 2 (.cells [.ints .u64 25]), .reg 4 (.cells [.ints .u64 5])], [(1, 1), (2, 2), (4, 4)]⟩
abbrev ok9_1 : List (AExit × Lay) := [(.exit 2, ⟨[(1, .ptr 1 0 25), (2, .ptr 2 0 25), (4, .ptr 4 0 5)], [.env 3 (.c (.int .u8)), .env 17 (.c (.int .i64)), .reg 1 (.cells [.ints .u64 25]), .reg 2 (.cells [.ints .u64 25]), .reg 4 (.cells [.ints .u64 5])], [(1, 1), (2, 2), (4, 4)]⟩)]
noncomputable def stepk9_1 : Int × Int × (Nat → Int) × Int × (Nat → Int) × (Nat → Int) × (Nat → Int) → Option ((Int × Int × (Nat → Int) × Int × (Nat → Int) × (Nat → Int) × (Nat → Int)) ⊕ ((Int × Int × (Nat → Int) × (Nat → Int) × (Nat → Int))))
  | (t3, t17, t19, t20, r1, r2, r4) =>
    if (decide (t20 < 25)) = true then
      if (0 : Int) ≤ t20 ∧ t20 < (25 : Int) then
        if (0 : Int) ≤ (t20.tmod 5) ∧ (t20.tmod 5) < ((5 : Int) : Int) then
          if (0 : Int) ≤ (t20.tmod 5) ∧ (t20.tmod 5) < ((5 : Int) : Int) then
            let f1 : Nat → Int := (upd r4 (t20.tmod 5).toNat (bitsXor .u64 (r4 (t20.tmod 5).toNat) (t19 t20.toNat)))
            some (.inl (t3, t17, t19, (IntKind.i64.wrap (t20 + 1)), r1, r2, f1))
          else none
        else none
      else none
    else
      some (.inr (t3, t17, r1, r2, r4))

noncomputable def annk9_1 : Ann := .none
abbrev lk9_2 : Lay := ⟨[(1, .ptr 1 0 25), (2, .ptr 2 0 25), (4, .ptr 4 0 5)], [.env 3 (.c (.int .u8)), .env 17 (.c (.int .i64)), .env 32 (.c (.int .i64)), .reg 1 (.cells [.ints .u64 25]), .reg 2 (.cells [.ints .u64 25]), .reg 4 (.cells [.ints .u64 5])], [(1, 1), (2, 2), (4, 4)]⟩
abbrev ok9_2 : List (AExit × Lay) := [(.exit 4, ⟨[(1, .ptr 1 0 25), (2, .ptr 2 0 25)], [.env 3 (.c (.int .u8)), .env 17 (.c (.int .i64)), .reg 1 (.cells [.ints .u64 25]), .reg 2 (.cells [.ints .u64 25])], [(1, 1), (2, 2)]⟩)]
noncomputable def stepk9_2 : Int × Int × Int × (Nat → Int) × (Nat → Int) × (Nat → Int) → Option ((Int × Int × Int × (Nat → Int) × (Nat → Int) × (Nat → Int)) ⊕ ((Int × Int × (Nat → Int) × (Nat → Int))))
  | (t3, t17, t32, r1, r2, r4) =>
    if (decide (t32 < 25)) = true then
      if (0 : Int) ≤ t32 ∧ t32 < ((25 : Int) : Int) then
        if (0 : Int) ≤ ((IntKind.i64.wrap (t32 + 4)).tmod 5) ∧ ((IntKind.i64.wrap (t32 + 4)).tmod 5) < ((5 : Int) : Int) then
          if (0 : Int) ≤ ((IntKind.i64.wrap (t32 + 1)).tmod 5) ∧ ((IntKind.i64.wrap (t32 + 1)).tmod 5) < ((5 : Int) : Int) then
            (Fk26 ((r4 ((IntKind.i64.wrap (t32 + 1)).tmod 5).toNat), 1)).bind fun y7 =>
              let x8 : Int := (bitsXor .u64 (r4 ((IntKind.i64.wrap (t32 + 4)).tmod 5).toNat) y7)
              if (0 : Int) ≤ t32 ∧ t32 < ((25 : Int) : Int) then
                some (.inl (t3, t17, (IntKind.i64.wrap (t32 + 1)), (upd r1 t32.toNat (bitsXor .u64 (r1 t32.toNat) x8)), r2, r4))
              else none
          else none
        else none
      else none
    else
      some (.inr (t3, t17, r1, r2))

noncomputable def annk9_2 : Ann := .none
abbrev lk9_3 : Lay := ⟨[(1, .ptr 1 0 25), (2, .ptr 2 0 25)], [.env 3 (.c (.int .u8)), .env 8 (.c (.int .i64)), .env 9 (.c (.int .i64)), .env 10 (.c (.int .u64)), .env 17 (.c (.int .i64)), .env 55 (.c (.int .i64)), .reg 1 (.cells [.ints .u64 25]), .reg 2 (.cells [.ints .u64 25])], [(1, 1), (2, 2)]⟩
abbrev ok9_3 : List (AExit × Lay) := [(.exit 6, ⟨[(1, .ptr 1 0 25), (2, .ptr 2 0 25)], [.env 3 (.c (.int .u8)), .env 17 (.c (.int .i64)), .reg 1 (.cells [.ints .u64 25]), .reg 2 (.cells [.ints .u64 25])], [(1, 1), (2, 2)]⟩)]
noncomputable def stepk9_3 : Int × Int × Int × Int × Int × Int × (Nat → Int) × (Nat → Int) → Option ((Int × Int × Int × Int × Int × Int × (Nat → Int) × (Nat → Int)) ⊕ ((Int × Int × (Nat → Int) × (Nat → Int))))
  | (t3, t8, t9, t10, t17, t55, r1, r2) =>
    if (decide (t55 < 24)) = true then
      let x13 : Int := (IntKind.i64.wrap ((IntKind.i64.wrap (2 * t8)) + (IntKind.i64.wrap (3 * t9))))
      let x14 : Int := (IntKind.i64.wrap ((IntKind.i64.wrap (t55 + 1)) * (IntKind.i64.wrap (t55 + 2))))
      (Fk26 (t10, ((IntKind.i64.wrap (x14.tdiv 2)).tmod 64))).bind fun y15 =>
        let x16 : Int := (IntKind.i64.wrap (t9 + (IntKind.i64.wrap (5 * (x13.tmod 5)))))
        let x17 : Int := (IntKind.i64.wrap (t9 + (IntKind.i64.wrap (5 * (x13.tmod 5)))))
        if (0 : Int) ≤ x17 ∧ x17 < ((25 : Int) : Int) then
          if (0 : Int) ≤ x16 ∧ x16 < ((25 : Int) : Int) then
            some (.inl (t3, t9, (x13.tmod 5), (r1 x17.toNat), t17, (IntKind.i64.wrap (t55 + 1)), (upd r1 x16.toNat y15), r2))
          else none
        else none
    else
      some (.inr (t3, t17, r1, r2))

noncomputable def annk9_3 : Ann := .none
abbrev lk9_5 : Lay := ⟨[(1, .ptr 1 0 25), (2, .ptr 2 0 25), (14, .ptr 14 0 5)], [.env 3 (.c (.int .u8)), .env 13 (.c (.int .i64)), .env 17 (.c (.int .i64)), .env 97 (.c (.int .i64)), .reg 1 (.cells [.ints .u64 25]), .reg 2 (.cells [.ints .u64 25]), .reg 14 (.cells [.ints .u64 5])], [(1, 1), (2, 2), (14, 14)]⟩
abbrev ok9_5 : List (AExit × Lay) := [(.exit 10, ⟨[(1, .ptr 1 0 25), (2, .ptr 2 0 25)], [.env 3 (.c (.int .u8)), .env 13 (.c (.int .i64)), .env 17 (.c (.int .i64)), .reg 1 (.cells [.ints .u64 25]), .reg 2 (.cells [.ints .u64 25])], [(1, 1), (2, 2)]⟩)]
noncomputable def stepk9_5 : Int × Int × Int × Int × (Nat → Int) × (Nat → Int) × (Nat → Int) → Option ((Int × Int × Int × Int × (Nat → Int) × (Nat → Int) × (Nat → Int)) ⊕ ((Int × Int × Int × (Nat → Int) × (Nat → Int))))
  | (t3, t13, t17, t97, r1, r2, r14) =>
    if (decide (t97 < 5)) = true then
      if (0 : Int) ≤ t97 ∧ t97 < ((5 : Int) : Int) then
        if (0 : Int) ≤ ((IntKind.i64.wrap (t97 + 1)).tmod 5) ∧ ((IntKind.i64.wrap (t97 + 1)).tmod 5) < ((5 : Int) : Int) then
          let x22 : Int := (notI .u64 (r14 ((IntKind.i64.wrap (t97 + 1)).tmod 5).toNat))
          if (0 : Int) ≤ ((IntKind.i64.wrap (t97 + 2)).tmod 5) ∧ ((IntKind.i64.wrap (t97 + 2)).tmod 5) < ((5 : Int) : Int) then
            let x23 : Int := (bitsAnd .u64 x22 (r14 ((IntKind.i64.wrap (t97 + 2)).tmod 5).toNat))
            if (0 : Int) ≤ (IntKind.i64.wrap (t13 + t97)) ∧ (IntKind.i64.wrap (t13 + t97)) < ((25 : Int) : Int) then
              let f24 : Nat → Int := (upd r1 (IntKind.i64.wrap (t13 + t97)).toNat (bitsXor .u64 (r14 t97.toNat) x23))
              some (.inl (t3, t13, t17, (IntKind.i64.wrap (t97 + 1)), f24, r2, r14))
            else none
          else none
        else none
      else none
    else
      some (.inr (t3, t13, t17, r1, r2))

noncomputable def annk9_5 : Ann := .none
abbrev lk9_4 : Lay := ⟨[(1, .ptr 1 0 25), (2, .ptr 2 0 25)], [.env 3 (.c (.int .u8)), .env 13 (.c (.int .i64)), .env 17 (.c (.int .i64)), .reg 1 (.cells [.ints .u64 25]), .reg 2 (.cells [.ints .u64 25])], [(1, 1), (2, 2)]⟩
abbrev ok9_4 : List (AExit × Lay) := [(.exit 8, ⟨[(1, .ptr 1 0 25), (2, .ptr 2 0 25)], [.env 3 (.c (.int .u8)), .env 17 (.c (.int .i64)), .reg 1 (.cells [.ints .u64 25]), .reg 2 (.cells [.ints .u64 25])], [(1, 1), (2, 2)]⟩)]
noncomputable def stepk9_4 : Int × Int × Int × (Nat → Int) × (Nat → Int) → Option ((Int × Int × Int × (Nat → Int) × (Nat → Int)) ⊕ ((Int × Int × (Nat → Int) × (Nat → Int))))
  | (t3, t13, t17, r1, r2) =>
    if (decide (t13 < 25)) = true then
      if (0 : Int) ≤ t13 ∧ t13 ≤ (IntKind.i64.wrap (t13 + 5)) ∧ (IntKind.i64.wrap (t13 + 5)) ≤ ((25 : Int) : Int) then
        if (5 : Int) ≤ ((((IntKind.i64.wrap (t13 + 5)).toNat - t13.toNat) : Nat) : Int) then
          (loopO stepk9_5 (t3, t13, t17, 0, r1, r2, (fun j => r1 (t13.toNat + j)))).bind fun (z25, z26, z27, z28, z29) =>
            some (.inl (z25, (IntKind.i64.wrap (z26 + 5)), z27, z28, z29))
        else none
      else none
    else
      some (.inr (t3, t17, r1, r2))

noncomputable def annk9_4 : Ann := (.seq .none (.seq (.seq (.seq .none (.seq .none (.seq (.cut (cutEnt lk9_5 ok9_5 (loopO stepk9_5))) .none))) .none) .none))
abbrev lk9_6 : Lay := ⟨[(1, .ptr 1 0 25), (2, .ptr 2 0 25)], [.env 3 (.c (.int .u8)), .env 17 (.c (.int .i64)), .env 121 (.c (.int .i64)), .reg 1 (.cells [.ints .u64 25]), .reg 2 (.cells [.ints .u64 25])], [(1, 1), (2, 2)]⟩
abbrev ok9_6 : List (AExit × Lay) := [(.exit 12, ⟨[(1, .ptr 1 0 25), (2, .ptr 2 0 25)], [.env 3 (.c (.int .u8)), .env 17 (.c (.int .i64)), .reg 1 (.cells [.ints .u64 25]), .reg 2 (.cells [.ints .u64 25])], [(1, 1), (2, 2)]⟩)]
noncomputable def stepk9_6 : Int × Int × Int × (Nat → Int) × (Nat → Int) → Option ((Int × Int × Int × (Nat → Int) × (Nat → Int)) ⊕ ((Int × Int × (Nat → Int) × (Nat → Int))))
  | (t3, t17, t121, r1, r2) =>
    if (decide (t121 < 7)) = true then
      if 0 ≤ t121 then
        if 0 ≤ (IntKind.u64.wrap ((shlI .u64 1 t121) - 1)) then
          let x34 : Int := (shlI .u64 (IntKind.u64.wrap (bitsAnd .u8 t3 1)) (IntKind.u64.wrap ((shlI .u64 1 t121) - 1)))
          let x35 : Int := (bitsXor .u8 (shlI .u8 t3 1) (IntKind.u8.wrap ((shrI .u8 t3 7) * 113)))
          some (.inl (x35, t17, (IntKind.i64.wrap (t121 + 1)), (upd r1 0 (bitsXor .u64 (r1 0) x34)), r2))
        else none
      else none
    else
      some (.inr (t3, t17, r1, r2))

noncomputable def annk9_6 : Ann := .none
abbrev lk9_0 : Lay := ⟨[(1, .ptr 1 0 25), (2, .ptr 2 0 25)], [.env 3 (.c (.int .u8)), .env 17 (.c (.int .i64)), .reg 1 (.cells [.ints .u64 25]), .reg 2 (.cells [.ints .u64 25])], [(1, 1), (2, 2)]⟩
abbrev ok9_0 : List (AExit × Lay) := [(.exit 0, ⟨[(1, .ptr 1 0 25), (2, .ptr 2 0 25)], [.reg 1 (.cells [.ints .u64 25]), .reg 2 (.cells [.ints .u64 25])], [(1, 1), (2, 2)]⟩)]
noncomputable def stepk9_0 : Int × Int × (Nat → Int) × (Nat → Int) → Option ((Int × Int × (Nat → Int) × (Nat → Int)) ⊕ (((Nat → Int) × (Nat → Int))))
  | (t3, t17, r1, r2) =>
    if (decide (t17 < 24)) = true then
      (loopO stepk9_1 (t3, t17, r1, 0, r1, r2, (fun _ => 0))).bind fun (z2, z3, z4, z5, z6) =>
        (loopO stepk9_2 (z2, z3, 0, z4, z5, z6)).bind fun (z9, z10, z11, z12) =>
          (loopO stepk9_3 (z9, 1, 0, (z11 1), z10, 0, z11, z12)).bind fun (z18, z19, z20, z21) =>
            (loopO stepk9_4 (z18, 0, z19, z20, z21)).bind fun (z30, z31, z32, z33) =>
              (loopO stepk9_6 (z30, z31, 0, z32, z33)).bind fun (z36, z37, z38, z39) =>
                some (.inl (z36, (IntKind.i64.wrap (z37 + 1)), z38, z39))
    else
      some (.inr (r1, r2))

noncomputable def annk9_0 : Ann := (.seq .none (.seq .none (.seq (.seq (.seq .none (.seq (.seq .none (.seq (.cut (cutEnt lk9_1 ok9_1 (loopO stepk9_1))) .none)) (.seq (.seq .none (.seq (.cut (cutEnt lk9_2 ok9_2 (loopO stepk9_2))) .none)) (.seq .none (.seq .none (.seq (.seq .none (.seq (.cut (cutEnt lk9_3 ok9_3 (loopO stepk9_3))) .none)) (.seq (.seq .none (.seq (.cut (cutEnt lk9_4 ok9_4 (loopO stepk9_4))) .none)) (.seq .none (.seq (.cut (cutEnt lk9_6 ok9_6 (loopO stepk9_6))) .none))))))))) .none) .none)))
noncomputable def Fk9 : (Nat → Int) → Option ((Nat → Int))
  | a0 =>
    (loopO stepk9_0 (1, 0, a0, (fun _ => 0))).bind fun (z40, z41) =>
      some z40

noncomputable def annk9 : Ann := (.seq .none (.seq .none (.seq (.seq .none (.seq (.cut (cutEnt lk9_0 ok9_0 (loopO stepk9_0))) .none)) .none)))
abbrev Sk9 : FSh := ⟨[.val (.agg [.ints .u64 25])], [.val (.agg [.ints .u64 25])], [.cell 2 23]⟩
noncomputable def ck9 : Ctx Go.Proofs.Try.prog := ⟨ktab, ofL Ek26, ktabOk, Ek26_ok, kdep, kord⟩
theorem eqk9_1 : ∀ s : lk9_1.T, exec ktab (ofL Ek26) 144 (Code.at' [1, 1, 0, 1, 0, 0, 1, 1, 0, 0, 1, 0, 1, 0, 0] bodyk9) annk9_1 (fun e st => loopEnd (l := lk9_1) (outs := ok9_1) e st) (lk9_1.enc s) = stepk9_1 s := by
  rintro ⟨t3, t17, t19, t20, r1, r2, r4⟩
  kernel_rfl
theorem okk9_1 : LOk Go.Proofs.Try.prog 144 (cutEnt lk9_1 ok9_1 (loopO stepk9_1)) (Code.at' [1, 1, 0, 1, 0, 0, 1, 1, 0, 0, 1, 0, 1, 0] bodyk9) := by
  have e : Code.at' [1, 1, 0, 1, 0, 0, 1, 1, 0, 0, 1, 0, 1, 0] bodyk9 = .loop (Code.at' [1, 1, 0, 1, 0, 0, 1, 1, 0, 0, 1, 0, 1, 0, 0] bodyk9) := by kernel_rfl
  rw [e]
  refine loop_ok ck9 144 rfl rfl (annOk_of_cuts ?_) eqk9_1
  intro x hx
  exact absurd hx (by show x ∉ ([] : List (List Nat × LEnt)); simp)

theorem eqk9_2 : ∀ s : lk9_2.T, exec ktab (ofL Ek26) 144 (Code.at' [1, 1, 0, 1, 0, 0, 1, 1, 0, 0, 1, 1, 0, 1, 0, 0] bodyk9) annk9_2 (fun e st => loopEnd (l := lk9_2) (outs := ok9_2) e st) (lk9_2.enc s) = stepk9_2 s := by
  rintro ⟨t3, t17, t32, r1, r2, r4⟩
  kernel_rfl
theorem okk9_2 : LOk Go.Proofs.Try.prog 144 (cutEnt lk9_2 ok9_2 (loopO stepk9_2)) (Code.at' [1, 1, 0, 1, 0, 0, 1, 1, 0, 0, 1, 1, 0, 1, 0] bodyk9) := by
  have e : Code.at' [1, 1, 0, 1, 0, 0, 1, 1, 0, 0, 1, 1, 0, 1, 0] bodyk9 = .loop (Code.at' [1, 1, 0, 1, 0, 0, 1, 1, 0, 0, 1, 1, 0, 1, 0, 0] bodyk9) := by kernel_rfl
  rw [e]
  refine loop_ok ck9 144 rfl rfl (annOk_of_cuts ?_) eqk9_2
  intro x hx
  exact absurd hx (by show x ∉ ([] : List (List Nat × LEnt)); simp)

theorem eqk9_3 : ∀ s : lk9_3.T, exec ktab (ofL Ek26) 144 (Code.at' [1, 1, 0, 1, 0, 0, 1, 1, 0, 0, 1, 1, 1, 1, 1, 0, 1, 0, 0] bodyk9) annk9_3 (fun e st => loopEnd (l := lk9_3) (outs := ok9_3) e st) (lk9_3.enc s) = stepk9_3 s := by
  rintro ⟨t3, t8, t9, t10, t17, t55, r1, r2⟩
  kernel_rfl
theorem okk9_3 : LOk Go.Proofs.Try.prog 144 (cutEnt lk9_3 ok9_3 (loopO stepk9_3)) (Code.at' [1, 1, 0, 1, 0, 0, 1, 1, 0, 0, 1, 1, 1, 1, 1, 0, 1, 0] bodyk9) := by
  have e : Code.at' [1, 1, 0, 1, 0, 0, 1, 1, 0, 0, 1, 1, 1, 1, 1, 0, 1, 0] bodyk9 = .loop (Code.at' [1, 1, 0, 1, 0, 0, 1, 1, 0, 0, 1, 1, 1, 1, 1, 0, 1, 0, 0] bodyk9) := by kernel_rfl
  rw [e]
  refine loop_ok ck9 144 rfl rfl (annOk_of_cuts ?_) eqk9_3
  intro x hx
  exact absurd hx (by show x ∉ ([] : List (List Nat × LEnt)); simp)

theorem eqk9_5 : ∀ s : lk9_5.T, exec ktab (ofL Ek26) 144 (Code.at' [1, 1, 0, 1, 0, 0, 1, 1, 0, 0, 1, 1, 1, 1, 1, 1, 0, 1, 0, 0, 1, 0, 0, 1, 1, 0, 0] bodyk9) annk9_5 (fun e st => loopEnd (l := lk9_5) (outs := ok9_5) e st) (lk9_5.enc s) = stepk9_5 s := by
  rintro ⟨t3, t13, t17, t97, r1, r2, r14⟩
  kernel_rfl
theorem okk9_5 : LOk Go.Proofs.Try.prog 144 (cutEnt lk9_5 ok9_5 (loopO stepk9_5)) (Code.at' [1, 1, 0, 1, 0, 0, 1, 1, 0, 0, 1, 1, 1, 1, 1, 1, 0, 1, 0, 0, 1, 0, 0, 1, 1, 0] bodyk9) := by
  have e : Code.at' [1, 1, 0, 1, 0, 0, 1, 1, 0, 0, 1, 1, 1, 1, 1, 1, 0, 1, 0, 0, 1, 0, 0, 1, 1, 0] bodyk9 = .loop (Code.at' [1, 1, 0, 1, 0, 0, 1, 1, 0, 0, 1, 1, 1, 1, 1, 1, 0, 1, 0, 0, 1, 0, 0, 1, 1, 0, 0] bodyk9) := by kernel_rfl
  rw [e]
  refine loop_ok ck9 144 rfl rfl (annOk_of_cuts ?_) eqk9_5
  intro x hx
  exact absurd hx (by show x ∉ ([] : List (List Nat × LEnt)); simp)

theorem eqk9_4 : ∀ s : lk9_4.T, exec ktab (ofL Ek26) 144 (Code.at' [1, 1, 0, 1, 0, 0, 1, 1, 0, 0, 1, 1, 1, 1, 1, 1, 0, 1, 0, 0] bodyk9) annk9_4 (fun e st => loopEnd (l := lk9_4) (outs := ok9_4) e st) (lk9_4.enc s) = stepk9_4 s := by
  rintro ⟨t3, t13, t17, r1, r2⟩
  kernel_rfl
theorem okk9_4 : LOk Go.Proofs.Try.prog 144 (cutEnt lk9_4 ok9_4 (loopO stepk9_4)) (Code.at' [1, 1, 0, 1, 0, 0, 1, 1, 0, 0, 1, 1, 1, 1, 1, 1, 0, 1, 0] bodyk9) := by
  have e : Code.at' [1, 1, 0, 1, 0, 0, 1, 1, 0, 0, 1, 1, 1, 1, 1, 1, 0, 1, 0] bodyk9 = .loop (Code.at' [1, 1, 0, 1, 0, 0, 1, 1, 0, 0, 1, 1, 1, 1, 1, 1, 0, 1, 0, 0] bodyk9) := by kernel_rfl
  rw [e]
  refine loop_ok ck9 144 rfl rfl (annOk_of_cuts ?_) eqk9_4
  have hc : Ann.cuts annk9_4 = [([1, 0, 0, 1, 1, 0], (cutEnt lk9_5 ok9_5 (loopO stepk9_5)))] := by kernel_rfl
  rw [hc]
  intro x hx
  simp only [List.mem_cons, List.not_mem_nil, or_false] at hx
  rcases hx with rfl
  · have e : Code.at' [1, 0, 0, 1, 1, 0] (Code.at' [1, 1, 0, 1, 0, 0, 1, 1, 0, 0, 1, 1, 1, 1, 1, 1, 0, 1, 0, 0] bodyk9) = Code.at' [1, 1, 0, 1, 0, 0, 1, 1, 0, 0, 1, 1, 1, 1, 1, 1, 0, 1, 0, 0, 1, 0, 0, 1, 1, 0] bodyk9 := by kernel_rfl
    rw [e]; exact okk9_5

theorem eqk9_6 : ∀ s : lk9_6.T, exec ktab (ofL Ek26) 144 (Code.at' [1, 1, 0, 1, 0, 0, 1, 1, 0, 0, 1, 1, 1, 1, 1, 1, 1, 1, 0, 0] bodyk9) annk9_6 (fun e st => loopEnd (l := lk9_6) (outs := ok9_6) e st) (lk9_6.enc s) = stepk9_6 s := by
  rintro ⟨t3, t17, t121, r1, r2⟩
  kernel_rfl
theorem okk9_6 : LOk Go.Proofs.Try.prog 144 (cutEnt lk9_6 ok9_6 (loopO stepk9_6)) (Code.at' [1, 1, 0, 1, 0, 0, 1, 1, 0, 0, 1, 1, 1, 1, 1, 1, 1, 1, 0] bodyk9) := by
  have e : Code.at' [1, 1, 0, 1, 0, 0, 1, 1, 0, 0, 1, 1, 1, 1, 1, 1, 1, 1, 0] bodyk9 = .loop (Code.at' [1, 1, 0, 1, 0, 0, 1, 1, 0, 0, 1, 1, 1, 1, 1, 1, 1, 1, 0, 0] bodyk9) := by kernel_rfl
  rw [e]
  refine loop_ok ck9 144 rfl rfl (annOk_of_cuts ?_) eqk9_6
  intro x hx
  exact absurd hx (by show x ∉ ([] : List (List Nat × LEnt)); simp)

theorem eqk9_0 : ∀ s : lk9_0.T, exec ktab (ofL Ek26) 144 (Code.at' [1, 1, 0, 1, 0, 0] bodyk9) annk9_0 (fun e st => loopEnd (l := lk9_0) (outs := ok9_0) e st) (lk9_0.enc s) = stepk9_0 s := by
  rintro ⟨t3, t17, r1, r2⟩
  kernel_rfl
theorem okk9_0 : LOk Go.Proofs.Try.prog 144 (cutEnt lk9_0 ok9_0 (loopO stepk9_0)) (Code.at' [1, 1, 0, 1, 0] bodyk9) := by
  have e : Code.at' [1, 1, 0, 1, 0] bodyk9 = .loop (Code.at' [1, 1, 0, 1, 0, 0] bodyk9) := by kernel_rfl
  rw [e]
  refine loop_ok ck9 144 rfl rfl (annOk_of_cuts ?_) eqk9_0
  have hc : Ann.cuts annk9_0 = [([1, 1, 0, 0, 1, 0, 1, 0], (cutEnt lk9_1 ok9_1 (loopO stepk9_1))), ([1, 1, 0, 0, 1, 1, 0, 1, 0], (cutEnt lk9_2 ok9_2 (loopO stepk9_2))), ([1, 1, 0, 0, 1, 1, 1, 1, 1, 0, 1, 0], (cutEnt lk9_3 ok9_3 (loopO stepk9_3))), ([1, 1, 0, 0, 1, 1, 1, 1, 1, 1, 0, 1, 0], (cutEnt lk9_4 ok9_4 (loopO stepk9_4))), ([1, 1, 0, 0, 1, 1, 1, 1, 1, 1, 1, 1, 0], (cutEnt lk9_6 ok9_6 (loopO stepk9_6)))] := by kernel_rfl
  rw [hc]
  intro x hx
  simp only [List.mem_cons, List.not_mem_nil, or_false] at hx
  rcases hx with rfl | rfl | rfl | rfl | rfl
  · have e : Code.at' [1, 1, 0, 0, 1, 0, 1, 0] (Code.at' [1, 1, 0, 1, 0, 0] bodyk9) = Code.at' [1, 1, 0, 1, 0, 0, 1, 1, 0, 0, 1, 0, 1, 0] bodyk9 := by kernel_rfl
    rw [e]; exact okk9_1
  · have e : Code.at' [1, 1, 0, 0, 1, 1, 0, 1, 0] (Code.at' [1, 1, 0, 1, 0, 0] bodyk9) = Code.at' [1, 1, 0, 1, 0, 0, 1, 1, 0, 0, 1, 1, 0, 1, 0] bodyk9 := by kernel_rfl
    rw [e]; exact okk9_2
  · have e : Code.at' [1, 1, 0, 0, 1, 1, 1, 1, 1, 0, 1, 0] (Code.at' [1, 1, 0, 1, 0, 0] bodyk9) = Code.at' [1, 1, 0, 1, 0, 0, 1, 1, 0, 0, 1, 1, 1, 1, 1, 0, 1, 0] bodyk9 := by kernel_rfl
    rw [e]; exact okk9_3
  · have e : Code.at' [1, 1, 0, 0, 1, 1, 1, 1, 1, 1, 0, 1, 0] (Code.at' [1, 1, 0, 1, 0, 0] bodyk9) = Code.at' [1, 1, 0, 1, 0, 0, 1, 1, 0, 0, 1, 1, 1, 1, 1, 1, 0, 1, 0] bodyk9 := by kernel_rfl
    rw [e]; exact okk9_4
  · have e : Code.at' [1, 1, 0, 0, 1, 1, 1, 1, 1, 1, 1, 1, 0] (Code.at' [1, 1, 0, 1, 0, 0] bodyk9) = Code.at' [1, 1, 0, 1, 0, 0, 1, 1, 0, 0, 1, 1, 1, 1, 1, 1, 1, 1, 0] bodyk9 := by kernel_rfl
    rw [e]; exact okk9_6

theorem eqk9 : ∀ x : psT Sk9.ps, exec ktab (ofL Ek26) 144 bodyk9 annk9 (fin ktab Sk9) (argSt Sk9 x) = Fk9 x := by
  intro x
  kernel_rfl
theorem callsk9 : CallsAs Go.Proofs.Try.prog ck9 9 Sk9 Fk9 := by
  refine fun_calls (fn := Go.Proofs.Try.f9) (c := bodyk9) (ann := annk9) ck9 (by kernel_rfl) (by kernel_rfl) (by kernel_rfl) (by decide) (annOk_of_cuts ?_) eqk9
  have hc : Ann.cuts annk9 = [([1, 1, 0, 1, 0], (cutEnt lk9_0 ok9_0 (loopO stepk9_0)))] := by kernel_rfl
  rw [hc]
  intro x hx
  simp only [List.mem_cons, List.not_mem_nil, or_false] at hx
  rcases hx with rfl
  · have e : Code.at' [1, 1, 0, 1, 0] bodyk9 = Code.at' [1, 1, 0, 1, 0] bodyk9 := by kernel_rfl
    rw [e]; exact okk9_0

theorem entk9 : EntOk Go.Proofs.Try.prog 9 (funEnt Sk9 Fk9) := fun_ok ck9 (fn := Go.Proofs.Try.f9) (c := bodyk9) (by kernel_rfl) (by kernel_rfl) (by kernel_rfl) rfl rfl (by decide) callsk9
noncomputable def Ek9 : List (Nat × Ent) := (9, funEnt Sk9 Fk9) :: Ek26
theorem Ek9_ok : EntsOk Go.Proofs.Try.prog (ofL Ek9) := .cons entk9 Ek26_ok

/-! ### (*barbican/keccak.Sponge).Write -/
noncomputable def bodyk12 : Code := (Go.Proofs.Try.f12.body).getD .skip
abbrev lk12_0 : Lay := ⟨[(0, .ptr 1000000 0 29)], [.env 15 (.c (.fz (.int .u8))), .env 16 (.c (.int .i64)), .env 17 (.c (.int .i64)), .reg 1000000 (.cells [.int .i64, .ints .u64 25, .int .i64, .bool, .int .i64])], [(1000000, 0)]⟩
abbrev ok12_0 : List (AExit × Lay) := [(.exit 1, ⟨[], [.reg 1000000 (.cells [.int .i64, .ints .u64 25, .int .i64, .bool, .int .i64])], []⟩)]
noncomputable def stepk12_0 : (List Int) × Int × Int × (Int × (Nat → Int) × Int × Bool × Int) → Option (((List Int) × Int × Int × (Int × (Nat → Int) × Int × Bool × Int)) ⊕ ((Int × (Nat → Int) × Int × Bool × Int)))
  | (t15, t16, t17, r1000000) =>
    if (decide (t17 < t16)) = true then
      if (0 : Int) ≤ t17 ∧ t17 < (t15.length : Int) then
        (Fk30 ((r1000000.1, r1000000.2.1, r1000000.2.2.1, r1000000.2.2.2.1, r1000000.2.2.2.2), r1000000.2.2.1, (t15.getD t17.toNat 0))).bind fun (_, c1) =>
          if 0 ≤ c1.1 ∧ c1.1 < (kstr1.size : Int) then
            let x2 : Bool := ((IntKind.i64.wrap (c1.2.2.1 + 1)) == (IntKind.i64.wrap (strAt kstr1 c1.1)))
            if x2 = true then
              (Fk9 c1.2.1).bind fun y3 =>
                some (.inl (t15, t16, (IntKind.i64.wrap (t17 + 1)), (c1.1, y3, 0, c1.2.2.2.1, c1.2.2.2.2)))
            else
              some (.inl (t15, t16, (IntKind.i64.wrap (t17 + 1)), (c1.1, c1.2.1, (IntKind.i64.wrap (c1.2.2.1 + 1)), c1.2.2.2.1, c1.2.2.2.2)))
          else none
      else none
    else
      some (.inr (r1000000.1, r1000000.2.1, r1000000.2.2.1, r1000000.2.2.2.1, r1000000.2.2.2.2))

noncomputable def annk12_0 : Ann := .none
noncomputable def Fk12 : (Int × (Nat → Int) × Int × Bool × Int) × List Int → Option ((Int) × (Int × (Nat → Int) × Int × Bool × Int))
  | (io, a1) =>
    if io.2.2.2.1 = true then
      some (32, (io.1, io.2.1, io.2.2.1, io.2.2.2.1, io.2.2.2.2))
    else
      (loopO stepk12_0 (a1, (a1.length : Int), 0, (io.1, io.2.1, io.2.2.1, io.2.2.2.1, io.2.2.2.2))).bind fun z4 =>
        some (0, (z4.1, z4.2.1, z4.2.2.1, z4.2.2.2.1, z4.2.2.2.2))

noncomputable def annk12 : Ann := (.seq .none (.seq .none (.seq (.seq .none (.seq (.cut (cutEnt lk12_0 ok12_0 (loopO stepk12_0))) .none)) .none)))
abbrev Sk12 : FI := ⟨(some [.int .i64, .ints .u64 25, .int .i64, .bool, .int .i64]), [.ints .u8], [.val (.c (.int .i64))], none, [.tmp 4]⟩
noncomputable def ck12 : Ctx Go.Proofs.Try.prog := ⟨ktab, ofL Ek9, ktabOk, Ek9_ok, kdep, kord⟩
theorem eqk12_0 : ∀ s : lk12_0.T, exec ktab (ofL Ek9) 58 (Code.at' [1, 1, 0, 1, 0, 0] bodyk12) annk12_0 (fun e st => loopEnd (l := lk12_0) (outs := ok12_0) e st) (lk12_0.enc s) = stepk12_0 s := by
  rintro ⟨t15, t16, t17, r1000000⟩
  kernel_rfl
theorem okk12_0 : LOk Go.Proofs.Try.prog 58 (cutEnt lk12_0 ok12_0 (loopO stepk12_0)) (Code.at' [1, 1, 0, 1, 0] bodyk12) := by
  have e : Code.at' [1, 1, 0, 1, 0] bodyk12 = .loop (Code.at' [1, 1, 0, 1, 0, 0] bodyk12) := by kernel_rfl
  rw [e]
  refine loop_ok ck12 58 rfl rfl (annOk_of_cuts ?_) eqk12_0
  intro x hx
  exact absurd hx (by show x ∉ ([] : List (List Nat × LEnt)); simp)

theorem eqk12 : ∀ x : inT Sk12, exec ktab (ofL Ek9) 58 bodyk12 annk12 (finI ktab Sk12) (argStI Sk12 x) = Fk12 x := by
  rintro ⟨io, a1⟩
  kernel_rfl
theorem callsk12 : CallsI Go.Proofs.Try.prog 12 Sk12 Fk12 := by
  refine fun_callsI (fn := Go.Proofs.Try.f12) (c := bodyk12) (ann := annk12) ck12 (by kernel_rfl) (by kernel_rfl) (by kernel_rfl) (Nat.le_of_ble_eq_true (by kernel_rfl)) (annOk_of_cuts ?_) eqk12
  have hc : Ann.cuts annk12 = [([1, 1, 0, 1, 0], (cutEnt lk12_0 ok12_0 (loopO stepk12_0)))] := by kernel_rfl
  rw [hc]
  intro x hx
  simp only [List.mem_cons, List.not_mem_nil, or_false] at hx
  rcases hx with rfl
  · have e : Code.at' [1, 1, 0, 1, 0] bodyk12 = Code.at' [1, 1, 0, 1, 0] bodyk12 := by kernel_rfl
    rw [e]; exact okk12_0

theorem entk12 : EntOk Go.Proofs.Try.prog 12 (funEntI Sk12 Fk12) := fun_okI (fn := Go.Proofs.Try.f12) (c := bodyk12) (by kernel_rfl) (by kernel_rfl) (by kernel_rfl) (by kernel_rfl) (by kernel_rfl) callsk12
noncomputable def Ek12 : List (Nat × Ent) := (12, funEntI Sk12 Fk12) :: Ek9
theorem Ek12_ok : EntsOk Go.Proofs.Try.prog (ofL Ek12) := .cons entk12 Ek9_ok

/-! ### (*barbican/keccak.Sponge).Read -/
noncomputable def bodyk13 : Code := (Go.Proofs.Try.f13.body).getD .skip
abbrev lk13_0 : Lay := ⟨[(0, .ptr 1000000 0 29), (7, .full 75)], [.env 1 (.c (.int .i64)), .env 6 (.c (.int .i64)), .env 77 (.c (.int .i64)), .env 78 (.c (.int .i64)), .reg 1000000 (.cells [.int .i64, .ints .u64 25, .int .i64, .bool, .int .i64]), .reg 75 (.row 5 .u8)], [(1000000, 0), (75, 7)]⟩
abbrev ok13_0 : List (AExit × Lay) := [(.exit 1, ⟨[(0, .ptr 1000000 0 29), (7, .full 75)], [.env 1 (.c (.int .i64)), .reg 1000000 (.cells [.int .i64, .ints .u64 25, .int .i64, .bool, .int .i64]), .reg 75 (.row 5 .u8)], [(1000000, 0), (75, 7)]⟩)]
noncomputable def stepk13_0 : Int × Int × Int × Int × (Int × (Nat → Int) × Int × Bool × Int) × List Int → Option ((Int × Int × Int × Int × (Int × (Nat → Int) × Int × Bool × Int) × List Int) ⊕ ((Int × (Int × (Nat → Int) × Int × Bool × Int) × List Int)))
  | (t1, t6, t77, t78, r1000000, r75) =>
    if (decide (t78 < t77)) = true then
      if (r1000000.2.2.1 == t6) = true then
        (Fk9 r1000000.2.1).bind fun y5 =>
          if (0 : Int) ≤ (IntKind.i64.wrap ((0 : Int).tdiv 8)) ∧ (IntKind.i64.wrap ((0 : Int).tdiv 8)) < ((25 : Int) : Int) then
            if 0 ≤ (IntKind.i64.wrap (8 * ((0 : Int).tmod 8))) then
              let x6 : Int := (shrI .u64 (y5 (IntKind.i64.wrap ((0 : Int).tdiv 8)).toNat) (IntKind.i64.wrap (8 * ((0 : Int).tmod 8))))
              if (0 : Int) ≤ t78 ∧ t78 < (r75.length : Int) then
                some (.inl (t1, t6, t77, (IntKind.i64.wrap (t78 + 1)), (r1000000.1, y5, 1, r1000000.2.2.2.1, r1000000.2.2.2.2), (r75.set t78.toNat (IntKind.u8.wrap x6))))
              else none
            else none
          else none
      else
        if (0 : Int) ≤ (IntKind.i64.wrap (r1000000.2.2.1.tdiv 8)) ∧ (IntKind.i64.wrap (r1000000.2.2.1.tdiv 8)) < ((25 : Int) : Int) then
          let x7 : Int := (r1000000.2.1 (IntKind.i64.wrap (r1000000.2.2.1.tdiv 8)).toNat)
          if 0 ≤ (IntKind.i64.wrap (8 * (r1000000.2.2.1.tmod 8))) then
            let x8 : Int := (shrI .u64 x7 (IntKind.i64.wrap (8 * (r1000000.2.2.1.tmod 8))))
            if (0 : Int) ≤ t78 ∧ t78 < (r75.length : Int) then
              some (.inl (t1, t6, t77, (IntKind.i64.wrap (t78 + 1)), (r1000000.1, r1000000.2.1, (IntKind.i64.wrap (r1000000.2.2.1 + 1)), r1000000.2.2.2.1, r1000000.2.2.2.2), (r75.set t78.toNat (IntKind.u8.wrap x8))))
            else none
          else none
        else none
    else
      some (.inr (t1, (r1000000.1, r1000000.2.1, r1000000.2.2.1, r1000000.2.2.2.1, r1000000.2.2.2.2), r75))

noncomputable def annk13_0 : Ann := .none
noncomputable def Fk13 : (Int × (Nat → Int) × Int × Bool × Int) × Int → Option ((List Int × Int) × (Int × (Nat → Int) × Int × Bool × Int))
  | (io, a1) =>
    if (decide (a1 < 0)) = false then
      if (decide (a1 > 65536)) = true then
        some (([], 1), (io.1, io.2.1, io.2.2.1, io.2.2.2.1, io.2.2.2.2))
      else
        if (decide (io.2.2.2.2 ≥ 0)) = true then
          if (decide (a1 > io.2.2.2.2)) = true then
            some (([], 33), (io.1, io.2.1, io.2.2.1, io.2.2.2.1, io.2.2.2.2))
          else
            if 0 ≤ io.1 ∧ io.1 < (kstr1.size : Int) then
              if (!io.2.2.2.1) = true then
                if 0 ≤ io.1 ∧ io.1 < (kstr2.size : Int) then
                  (Fk30 ((io.1, io.2.1, io.2.2.1, io.2.2.2.1, io.2.2.2.2), io.2.2.1, (strAt kstr2 io.1))).bind fun (_, c1) =>
                    let x2 : Int := (IntKind.i64.wrap ((IntKind.i64.wrap (strAt kstr1 io.1)) - 1))
                    (Fk30 ((c1.1, c1.2.1, c1.2.2.1, c1.2.2.2.1, c1.2.2.2.2), x2, 128)).bind fun (_, c3) =>
                      (Fk9 c3.2.1).bind fun y4 =>
                        if 0 ≤ a1 ∧ a1 ≤ a1 ∧ okBytes a1.toNat 1 then
                          (loopO stepk13_0 (a1, (IntKind.i64.wrap (strAt kstr1 io.1)), ((List.replicate a1.toNat (0 : Int)).length : Int), 0, (c3.1, y4, 0, true, c3.2.2.2.2), (List.replicate a1.toNat (0 : Int)))).bind fun (z9, z10, z11) =>
                            if (decide (z10.2.2.2.2 ≥ 0)) = true then
                              some ((z11, 0), (z10.1, z10.2.1, z10.2.2.1, z10.2.2.2.1, (IntKind.i64.wrap (z10.2.2.2.2 - z9))))
                            else
                              some ((z11, 0), (z10.1, z10.2.1, z10.2.2.1, z10.2.2.2.1, z10.2.2.2.2))
                        else none
                else none
              else
                if 0 ≤ a1 ∧ a1 ≤ a1 ∧ okBytes a1.toNat 1 then
                  (loopO stepk13_0 (a1, (IntKind.i64.wrap (strAt kstr1 io.1)), ((List.replicate a1.toNat (0 : Int)).length : Int), 0, (io.1, io.2.1, io.2.2.1, io.2.2.2.1, io.2.2.2.2), (List.replicate a1.toNat (0 : Int)))).bind fun (z12, z13, z14) =>
                    if (decide (z13.2.2.2.2 ≥ 0)) = true then
                      some ((z14, 0), (z13.1, z13.2.1, z13.2.2.1, z13.2.2.2.1, (IntKind.i64.wrap (z13.2.2.2.2 - z12))))
                    else
                      some ((z14, 0), (z13.1, z13.2.1, z13.2.2.1, z13.2.2.2.1, z13.2.2.2.2))
                else none
            else none
        else
          if 0 ≤ io.1 ∧ io.1 < (kstr1.size : Int) then
            if (!io.2.2.2.1) = true then
              if 0 ≤ io.1 ∧ io.1 < (kstr2.size : Int) then
                (Fk30 ((io.1, io.2.1, io.2.2.1, io.2.2.2.1, io.2.2.2.2), io.2.2.1, (strAt kstr2 io.1))).bind fun (_, c15) =>
                  let x16 : Int := (IntKind.i64.wrap ((IntKind.i64.wrap (strAt kstr1 io.1)) - 1))
                  (Fk30 ((c15.1, c15.2.1, c15.2.2.1, c15.2.2.2.1, c15.2.2.2.2), x16, 128)).bind fun (_, c17) =>
                    (Fk9 c17.2.1).bind fun y18 =>
                      if 0 ≤ a1 ∧ a1 ≤ a1 ∧ okBytes a1.toNat 1 then
                        (loopO stepk13_0 (a1, (IntKind.i64.wrap (strAt kstr1 io.1)), ((List.replicate a1.toNat (0 : Int)).length : Int), 0, (c17.1, y18, 0, true, c17.2.2.2.2), (List.replicate a1.toNat (0 : Int)))).bind fun (z19, z20, z21) =>
                          if (decide (z20.2.2.2.2 ≥ 0)) = true then
                            some ((z21, 0), (z20.1, z20.2.1, z20.2.2.1, z20.2.2.2.1, (IntKind.i64.wrap (z20.2.2.2.2 - z19))))
                          else
                            some ((z21, 0), (z20.1, z20.2.1, z20.2.2.1, z20.2.2.2.1, z20.2.2.2.2))
                      else none
              else none
            else
              if 0 ≤ a1 ∧ a1 ≤ a1 ∧ okBytes a1.toNat 1 then
                (loopO stepk13_0 (a1, (IntKind.i64.wrap (strAt kstr1 io.1)), ((List.replicate a1.toNat (0 : Int)).length : Int), 0, (io.1, io.2.1, io.2.2.1, io.2.2.2.1, io.2.2.2.2), (List.replicate a1.toNat (0 : Int)))).bind fun (z22, z23, z24) =>
                  if (decide (z23.2.2.2.2 ≥ 0)) = true then
                    some ((z24, 0), (z23.1, z23.2.1, z23.2.2.1, z23.2.2.2.1, (IntKind.i64.wrap (z23.2.2.2.2 - z22))))
                  else
                    some ((z24, 0), (z23.1, z23.2.1, z23.2.2.1, z23.2.2.2.1, z23.2.2.2.2))
              else none
          else none
    else
      some (([], 1), (io.1, io.2.1, io.2.2.1, io.2.2.2.1, io.2.2.2.2))

noncomputable def annk13 : Ann := (.seq .none (.seq .none (.seq .none (.seq .none (.seq .none (.seq (.seq .none (.seq (.cut (cutEnt lk13_0 ok13_0 (loopO stepk13_0))) .none)) .none))))))
abbrev Sk13 : FI := ⟨(some [.int .i64, .ints .u64 25, .int .i64, .bool, .int .i64]), [.val (.c (.int .i64))], [.row 5 .u8, .val (.c (.int .i64))], none, [.tmp 4, .tmp 5]⟩
noncomputable def ck13 : Ctx Go.Proofs.Try.prog := ⟨ktab, ofL Ek12, ktabOk, Ek12_ok, kdep, kord⟩
theorem eqk13_0 : ∀ s : lk13_0.T, exec ktab (ofL Ek12) 141 (Code.at' [1, 1, 1, 1, 1, 0, 1, 0, 0] bodyk13) annk13_0 (fun e st => loopEnd (l := lk13_0) (outs := ok13_0) e st) (lk13_0.enc s) = stepk13_0 s := by
  rintro ⟨t1, t6, t77, t78, r1000000, r75⟩
  kernel_rfl
theorem okk13_0 : LOk Go.Proofs.Try.prog 141 (cutEnt lk13_0 ok13_0 (loopO stepk13_0)) (Code.at' [1, 1, 1, 1, 1, 0, 1, 0] bodyk13) := by
  have e : Code.at' [1, 1, 1, 1, 1, 0, 1, 0] bodyk13 = .loop (Code.at' [1, 1, 1, 1, 1, 0, 1, 0, 0] bodyk13) := by kernel_rfl
  rw [e]
  refine loop_ok ck13 141 rfl rfl (annOk_of_cuts ?_) eqk13_0
  intro x hx
  exact absurd hx (by show x ∉ ([] : List (List Nat × LEnt)); simp)

theorem eqk13 : ∀ x : inT Sk13, exec ktab (ofL Ek12) 141 bodyk13 annk13 (finI ktab Sk13) (argStI Sk13 x) = Fk13 x := by
  rintro ⟨io, a1⟩
  kernel_rfl
theorem callsk13 : CallsI Go.Proofs.Try.prog 13 Sk13 Fk13 := by
  refine fun_callsI (fn := Go.Proofs.Try.f13) (c := bodyk13) (ann := annk13) ck13 (by kernel_rfl) (by kernel_rfl) (by kernel_rfl) (Nat.le_of_ble_eq_true (by kernel_rfl)) (annOk_of_cuts ?_) eqk13
  have hc : Ann.cuts annk13 = [([1, 1, 1, 1, 1, 0, 1, 0], (cutEnt lk13_0 ok13_0 (loopO stepk13_0)))] := by kernel_rfl
  rw [hc]
  intro x hx
  simp only [List.mem_cons, List.not_mem_nil, or_false] at hx
  rcases hx with rfl
  · have e : Code.at' [1, 1, 1, 1, 1, 0, 1, 0] bodyk13 = Code.at' [1, 1, 1, 1, 1, 0, 1, 0] bodyk13 := by kernel_rfl
    rw [e]; exact okk13_0

theorem entk13 : EntOk Go.Proofs.Try.prog 13 (funEntI Sk13 Fk13) := fun_okI (fn := Go.Proofs.Try.f13) (c := bodyk13) (by kernel_rfl) (by kernel_rfl) (by kernel_rfl) (by kernel_rfl) (by kernel_rfl) callsk13
noncomputable def Ek13 : List (Nat × Ent) := (13, funEntI Sk13 Fk13) :: Ek12
theorem Ek13_ok : EntsOk Go.Proofs.Try.prog (ofL Ek13) := .cons entk13 Ek12_ok

/-! ### barbican/keccak.all -/
noncomputable def bodyk31 : Code := (Go.Proofs.Try.f31.body).getD .skip
noncomputable def Fk31 : Int × List Int × Int → Option (List Int)
  | (a0, a1, a2) =>
    (Fk11 a0).bind fun
      | (.inl (y1, y2)) =>
        (Fk12 ((y1.1, y1.2.1, y1.2.2.1, y1.2.2.2.1, y1.2.2.2.2), a1)).bind fun (y4, c3) =>
          (Fk13 ((c3.1, c3.2.1, c3.2.2.1, c3.2.2.2.1, c3.2.2.2.2), a2)).bind fun ((y6, y7), c5) =>
            some y6
      | (.inr (y8, y9)) =>
        none

noncomputable def annk31 : Ann := .none
abbrev Sk31 : FSh := ⟨[.val (.c (.int .i64)), .ints .u8, .val (.c (.int .i64))], [.row 5 .u8], [.tmp 6]⟩
noncomputable def ck31 : Ctx Go.Proofs.Try.prog := ⟨ktab, ofL Ek13, ktabOk, Ek13_ok, kdep, kord⟩
theorem eqk31 : ∀ x : psT Sk31.ps, exec ktab (ofL Ek13) 26 bodyk31 annk31 (fin ktab Sk31) (argSt Sk31 x) = Fk31 x := by
  rintro ⟨a0, a1, a2⟩
  kernel_rfl
theorem callsk31 : CallsAs Go.Proofs.Try.prog ck31 31 Sk31 Fk31 := by
  refine fun_calls (fn := Go.Proofs.Try.f31) (c := bodyk31) (ann := annk31) ck31 (by kernel_rfl) (by kernel_rfl) (by kernel_rfl) (by decide) (annOk_of_cuts ?_) eqk31
  intro x hx
  exact absurd hx (by show x ∉ ([] : List (List Nat × LEnt)); simp)

theorem entk31 : EntOk Go.Proofs.Try.prog 31 (funEnt Sk31 Fk31) := fun_ok ck31 (fn := Go.Proofs.Try.f31) (c := bodyk31) (by kernel_rfl) (by kernel_rfl) (by kernel_rfl) rfl rfl (by decide) callsk31
noncomputable def Ek31 : List (Nat × Ent) := (31, funEnt Sk31 Fk31) :: Ek13
theorem Ek31_ok : EntsOk Go.Proofs.Try.prog (ofL Ek31) := .cons entk31 Ek13_ok

/-! ### barbican/keccak.Sum256 -/
noncomputable def bodyk17 : Code := (Go.Proofs.Try.f17.body).getD .skip
noncomputable def Fk17 : List Int → Option ((Nat → Int))
  | a0 =>
    (Fk31 (1, a0, 32)).bind fun y1 =>
      if (32 : Int) ≤ (y1.length : Int) then
        some (fun j => y1.getD (0 + j) 0)
      else none

noncomputable def annk17 : Ann := .none
abbrev Sk17 : FSh := ⟨[.ints .u8], [.val (.agg [.ints .u8 32])], [.cell 2 41]⟩
noncomputable def ck17 : Ctx Go.Proofs.Try.prog := ⟨ktab, ofL Ek31, ktabOk, Ek31_ok, kdep, kord⟩
theorem eqk17 : ∀ x : psT Sk17.ps, exec ktab (ofL Ek31) 7 bodyk17 annk17 (fin ktab Sk17) (argSt Sk17 x) = Fk17 x := by
  intro x
  kernel_rfl
theorem callsk17 : CallsAs Go.Proofs.Try.prog ck17 17 Sk17 Fk17 := by
  refine fun_calls (fn := Go.Proofs.Try.f17) (c := bodyk17) (ann := annk17) ck17 (by kernel_rfl) (by kernel_rfl) (by kernel_rfl) (by decide) (annOk_of_cuts ?_) eqk17
  intro x hx
  exact absurd hx (by show x ∉ ([] : List (List Nat × LEnt)); simp)

theorem entk17 : EntOk Go.Proofs.Try.prog 17 (funEnt Sk17 Fk17) := fun_ok ck17 (fn := Go.Proofs.Try.f17) (c := bodyk17) (by kernel_rfl) (by kernel_rfl) (by kernel_rfl) rfl rfl (by decide) callsk17
noncomputable def Ek17 : List (Nat × Ent) := (17, funEnt Sk17 Fk17) :: Ek31
theorem Ek17_ok : EntsOk Go.Proofs.Try.prog (ofL Ek17) := .cons entk17 Ek31_ok

/-! ### barbican/barbicanlaw03.awake -/
noncomputable def bodyk8 : Code := (Go.Proofs.Try.f8.body).getD .skip
noncomputable def Fk8 : Unit → Option (Bool)
  | _ =>
    (Fk17 []).bind fun y1 =>
      if ((y1 0) == 167) = true then
        if ((y1 1) == 255) = true then
          some ((y1 2) == 198)
        else
          some false
      else
        some false

noncomputable def annk8 : Ann := .none
abbrev Sk8 : FSh := ⟨[], [.val (.c (.bool))], [.tmp 0]⟩
noncomputable def ck8 : Ctx Go.Proofs.Try.prog := ⟨ktab, ofL Ek17, ktabOk, Ek17_ok, kdep, kord⟩
theorem eqk8 : ∀ x : psT Sk8.ps, exec ktab (ofL Ek17) 16 bodyk8 annk8 (fin ktab Sk8) (argSt Sk8 x) = Fk8 x := by
  intro x
  kernel_rfl
theorem callsk8 : CallsAs Go.Proofs.Try.prog ck8 8 Sk8 Fk8 := by
  refine fun_calls (fn := Go.Proofs.Try.f8) (c := bodyk8) (ann := annk8) ck8 (by kernel_rfl) (by kernel_rfl) (by kernel_rfl) (by decide) (annOk_of_cuts ?_) eqk8
  intro x hx
  exact absurd hx (by show x ∉ ([] : List (List Nat × LEnt)); simp)

theorem entk8 : EntOk Go.Proofs.Try.prog 8 (funEnt Sk8 Fk8) := fun_ok ck8 (fn := Go.Proofs.Try.f8) (c := bodyk8) (by kernel_rfl) (by kernel_rfl) (by kernel_rfl) rfl rfl (by decide) callsk8
noncomputable def Ek8 : List (Nat × Ent) := (8, funEnt Sk8 Fk8) :: Ek17
theorem Ek8_ok : EntsOk Go.Proofs.Try.prog (ofL Ek8) := .cons entk8 Ek17_ok

/-! ### barbican/barbicanref03.offsets -/
noncomputable def bodyk27 : Code := (Go.Proofs.Try.f27.body).getD .skip
abbrev lk27_0 : Lay := ⟨[(0, .ptr 0 0 25), (1, .ptr 1 0 25)], [.env 2 (.c (.int .i64)), .env 3 (.c (.int .i64)), .env 4 (.c (.int .i64)), .reg 0 (.cells [.ints .i64 25]), .reg 1 (.cells [.ints .i64 25])], [(0, 0), (1, 1)]⟩
abbrev ok27_0 : List (AExit × Lay) := [(.exit 0, ⟨[(0, .ptr 0 0 25), (1, .ptr 1 0 25)], [.reg 0 (.cells [.ints .i64 25]), .reg 1 (.cells [.ints .i64 25])], [(0, 0), (1, 1)]⟩)]
noncomputable def stepk27_0 : Int × Int × Int × (Nat → Int) × (Nat → Int) → Option ((Int × Int × Int × (Nat → Int) × (Nat → Int)) ⊕ (((Nat → Int) × (Nat → Int))))
  | (t2, t3, t4, r0, r1) =>
    if (decide (t4 < 24)) = true then
      let x1 : Int := (IntKind.i64.wrap ((IntKind.i64.wrap (t4 + 1)) * (IntKind.i64.wrap (t4 + 2))))
      if (0 : Int) ≤ (IntKind.i64.wrap (t2 + (IntKind.i64.wrap (5 * t3)))) ∧ (IntKind.i64.wrap (t2 + (IntKind.i64.wrap (5 * t3)))) < ((25 : Int) : Int) then
        let f2 : Nat → Int := (upd r1 (IntKind.i64.wrap (t2 + (IntKind.i64.wrap (5 * t3)))).toNat ((IntKind.i64.wrap (x1.tdiv 2)).tmod 64))
        let x3 : Int := (IntKind.i64.wrap ((IntKind.i64.wrap (2 * t2)) + (IntKind.i64.wrap (3 * t3))))
        some (.inl (t3, (x3.tmod 5), (IntKind.i64.wrap (t4 + 1)), r0, f2))
      else none
    else
      some (.inr (r0, r1))

noncomputable def annk27_0 : Ann := .none
noncomputable def Fk27 : Unit → Option ((Nat → Int))
  | _ =>
    (loopO stepk27_0 (1, 0, 0, (fun _ => 0), (fun _ => 0))).bind fun (z4, z5) =>
      some z5

noncomputable def annk27 : Ann := (.seq .none (.seq .none (.seq .none (.seq .none (.seq (.seq .none (.seq (.cut (cutEnt lk27_0 ok27_0 (loopO stepk27_0))) .none)) .none)))))
abbrev Sk27 : FSh := ⟨[], [.val (.agg [.ints .i64 25])], [.cell 0 65]⟩
noncomputable def ck27 : Ctx Go.Proofs.Try.prog := ⟨ktab, ofL Ek8, ktabOk, Ek8_ok, kdep, kord⟩
theorem eqk27_0 : ∀ s : lk27_0.T, exec ktab (ofL Ek8) 31 (Code.at' [1, 1, 1, 1, 0, 1, 0, 0] bodyk27) annk27_0 (fun e st => loopEnd (l := lk27_0) (outs := ok27_0) e st) (lk27_0.enc s) = stepk27_0 s := by
  rintro ⟨t2, t3, t4, r0, r1⟩
  kernel_rfl
theorem okk27_0 : LOk Go.Proofs.Try.prog 31 (cutEnt lk27_0 ok27_0 (loopO stepk27_0)) (Code.at' [1, 1, 1, 1, 0, 1, 0] bodyk27) := by
  have e : Code.at' [1, 1, 1, 1, 0, 1, 0] bodyk27 = .loop (Code.at' [1, 1, 1, 1, 0, 1, 0, 0] bodyk27) := by kernel_rfl
  rw [e]
  refine loop_ok ck27 31 rfl rfl (annOk_of_cuts ?_) eqk27_0
  intro x hx
  exact absurd hx (by show x ∉ ([] : List (List Nat × LEnt)); simp)

theorem eqk27 : ∀ x : psT Sk27.ps, exec ktab (ofL Ek8) 31 bodyk27 annk27 (fin ktab Sk27) (argSt Sk27 x) = Fk27 x := by
  intro x
  kernel_rfl
theorem callsk27 : CallsAs Go.Proofs.Try.prog ck27 27 Sk27 Fk27 := by
  refine fun_calls (fn := Go.Proofs.Try.f27) (c := bodyk27) (ann := annk27) ck27 (by kernel_rfl) (by kernel_rfl) (by kernel_rfl) (by decide) (annOk_of_cuts ?_) eqk27
  have hc : Ann.cuts annk27 = [([1, 1, 1, 1, 0, 1, 0], (cutEnt lk27_0 ok27_0 (loopO stepk27_0)))] := by kernel_rfl
  rw [hc]
  intro x hx
  simp only [List.mem_cons, List.not_mem_nil, or_false] at hx
  rcases hx with rfl
  · have e : Code.at' [1, 1, 1, 1, 0, 1, 0] bodyk27 = Code.at' [1, 1, 1, 1, 0, 1, 0] bodyk27 := by kernel_rfl
    rw [e]; exact okk27_0

theorem entk27 : EntOk Go.Proofs.Try.prog 27 (funEnt Sk27 Fk27) := fun_ok ck27 (fn := Go.Proofs.Try.f27) (c := bodyk27) (by kernel_rfl) (by kernel_rfl) (by kernel_rfl) rfl rfl (by decide) callsk27
noncomputable def Ek27 : List (Nat × Ent) := (27, funEnt Sk27 Fk27) :: Ek8
theorem Ek27_ok : EntsOk Go.Proofs.Try.prog (ofL Ek27) := .cons entk27 Ek8_ok

/-! ### barbican/barbicanref03.constants -/
noncomputable def bodyk28 : Code := (Go.Proofs.Try.f28.body).getD .skip
abbrev lk28_1 : Lay := ⟨[(0, .ptr 0 0 24), (1, .ptr 1 0 24)], [.env 2 (.c (.int .i64)), .env 3 (.c (.int .i64)), .env 4 (.c (.int .i64)), .env 5 (.c (.int .i64)), .reg 0 (.cells [.ints .u64 24]), .reg 1 (.cells [.ints .u64 24])], [(0, 0), (1, 1)]⟩
abbrev ok28_1 : List (AExit × Lay) := [(.exit 2, ⟨[(0, .ptr 0 0 24), (1, .ptr 1 0 24)], [.env 2 (.c (.int .i64)), .env 3 (.c (.int .i64)), .reg 0 (.cells [.ints .u64 24]), .reg 1 (.cells [.ints .u64 24])], [(0, 0), (1, 1)]⟩)]
noncomputable def stepk28_1 : Int × Int × Int × Int × (Nat → Int) × (Nat → Int) → Option ((Int × Int × Int × Int × (Nat → Int) × (Nat → Int)) ⊕ ((Int × Int × (Nat → Int) × (Nat → Int))))
  | (t2, t3, t4, t5, r0, r1) =>
    if (decide (t5 < 7)) = true then
      if (0 : Int) ≤ t3 ∧ t3 < ((24 : Int) : Int) then
        if 0 ≤ (IntKind.u64.wrap (IntKind.i64.wrap (t4 - 1))) then
          let x1 : Int := (shlI .u64 (IntKind.u64.wrap (t2.tmod 2)) (IntKind.u64.wrap (IntKind.i64.wrap (t4 - 1))))
          if (0 : Int) ≤ t3 ∧ t3 < ((24 : Int) : Int) then
            if (decide ((IntKind.i64.wrap (2 * t2)) > 255)) = true then
              let x2 : Int := (bitsXor .i64 (IntKind.i64.wrap ((IntKind.i64.wrap (2 * t2)) - 256)) 113)
              some (.inl (x2, t3, (IntKind.i64.wrap (2 * t4)), (IntKind.i64.wrap (t5 + 1)), r0, (upd r1 t3.toNat (IntKind.u64.wrap ((r1 t3.toNat) + x1)))))
            else
              some (.inl ((IntKind.i64.wrap (2 * t2)), t3, (IntKind.i64.wrap (2 * t4)), (IntKind.i64.wrap (t5 + 1)), r0, (upd r1 t3.toNat (IntKind.u64.wrap ((r1 t3.toNat) + x1)))))
          else none
        else none
      else none
    else
      some (.inr (t2, t3, r0, r1))

noncomputable def annk28_1 : Ann := .none
abbrev lk28_0 : Lay := ⟨[(0, .ptr 0 0 24), (1, .ptr 1 0 24)], [.env 2 (.c (.int .i64)), .env 3 (.c (.int .i64)), .reg 0 (.cells [.ints .u64 24]), .reg 1 (.cells [.ints .u64 24])], [(0, 0), (1, 1)]⟩
abbrev ok28_0 : List (AExit × Lay) := [(.exit 0, ⟨[(0, .ptr 0 0 24), (1, .ptr 1 0 24)], [.reg 0 (.cells [.ints .u64 24]), .reg 1 (.cells [.ints .u64 24])], [(0, 0), (1, 1)]⟩)]
noncomputable def stepk28_0 : Int × Int × (Nat → Int) × (Nat → Int) → Option ((Int × Int × (Nat → Int) × (Nat → Int)) ⊕ (((Nat → Int) × (Nat → Int))))
  | (t2, t3, r0, r1) =>
    if (decide (t3 < 24)) = true then
      (loopO stepk28_1 (t2, t3, 1, 0, r0, r1)).bind fun (z3, z4, z5, z6) =>
        some (.inl (z3, (IntKind.i64.wrap (z4 + 1)), z5, z6))
    else
      some (.inr (r0, r1))

noncomputable def annk28_0 : Ann := (.seq .none (.seq (.seq (.seq .none (.seq .none (.seq (.cut (cutEnt lk28_1 ok28_1 (loopO stepk28_1))) .none))) .none) .none))
noncomputable def Fk28 : Unit → Option ((Nat → Int))
  | _ =>
    (loopO stepk28_0 (1, 0, (fun _ => 0), (fun _ => 0))).bind fun (z7, z8) =>
      some z8

noncomputable def annk28 : Ann := (.seq .none (.seq .none (.seq .none (.seq (.seq .none (.seq (.cut (cutEnt lk28_0 ok28_0 (loopO stepk28_0))) .none)) .none))))
abbrev Sk28 : FSh := ⟨[], [.val (.agg [.ints .u64 24])], [.cell 0 67]⟩
noncomputable def ck28 : Ctx Go.Proofs.Try.prog := ⟨ktab, ofL Ek27, ktabOk, Ek27_ok, kdep, kord⟩
theorem eqk28_1 : ∀ s : lk28_1.T, exec ktab (ofL Ek27) 37 (Code.at' [1, 1, 1, 0, 1, 0, 0, 1, 0, 0, 1, 1, 0, 0] bodyk28) annk28_1 (fun e st => loopEnd (l := lk28_1) (outs := ok28_1) e st) (lk28_1.enc s) = stepk28_1 s := by
  rintro ⟨t2, t3, t4, t5, r0, r1⟩
  kernel_rfl
theorem okk28_1 : LOk Go.Proofs.Try.prog 37 (cutEnt lk28_1 ok28_1 (loopO stepk28_1)) (Code.at' [1, 1, 1, 0, 1, 0, 0, 1, 0, 0, 1, 1, 0] bodyk28) := by
  have e : Code.at' [1, 1, 1, 0, 1, 0, 0, 1, 0, 0, 1, 1, 0] bodyk28 = .loop (Code.at' [1, 1, 1, 0, 1, 0, 0, 1, 0, 0, 1, 1, 0, 0] bodyk28) := by kernel_rfl
  rw [e]
  refine loop_ok ck28 37 rfl rfl (annOk_of_cuts ?_) eqk28_1
  intro x hx
  exact absurd hx (by show x ∉ ([] : List (List Nat × LEnt)); simp)

theorem eqk28_0 : ∀ s : lk28_0.T, exec ktab (ofL Ek27) 37 (Code.at' [1, 1, 1, 0, 1, 0, 0] bodyk28) annk28_0 (fun e st => loopEnd (l := lk28_0) (outs := ok28_0) e st) (lk28_0.enc s) = stepk28_0 s := by
  rintro ⟨t2, t3, r0, r1⟩
  kernel_rfl
theorem okk28_0 : LOk Go.Proofs.Try.prog 37 (cutEnt lk28_0 ok28_0 (loopO stepk28_0)) (Code.at' [1, 1, 1, 0, 1, 0] bodyk28) := by
  have e : Code.at' [1, 1, 1, 0, 1, 0] bodyk28 = .loop (Code.at' [1, 1, 1, 0, 1, 0, 0] bodyk28) := by kernel_rfl
  rw [e]
  refine loop_ok ck28 37 rfl rfl (annOk_of_cuts ?_) eqk28_0
  have hc : Ann.cuts annk28_0 = [([1, 0, 0, 1, 1, 0], (cutEnt lk28_1 ok28_1 (loopO stepk28_1)))] := by kernel_rfl
  rw [hc]
  intro x hx
  simp only [List.mem_cons, List.not_mem_nil, or_false] at hx
  rcases hx with rfl
  · have e : Code.at' [1, 0, 0, 1, 1, 0] (Code.at' [1, 1, 1, 0, 1, 0, 0] bodyk28) = Code.at' [1, 1, 1, 0, 1, 0, 0, 1, 0, 0, 1, 1, 0] bodyk28 := by kernel_rfl
    rw [e]; exact okk28_1

theorem eqk28 : ∀ x : psT Sk28.ps, exec ktab (ofL Ek27) 37 bodyk28 annk28 (fin ktab Sk28) (argSt Sk28 x) = Fk28 x := by
  intro x
  kernel_rfl
theorem callsk28 : CallsAs Go.Proofs.Try.prog ck28 28 Sk28 Fk28 := by
  refine fun_calls (fn := Go.Proofs.Try.f28) (c := bodyk28) (ann := annk28) ck28 (by kernel_rfl) (by kernel_rfl) (by kernel_rfl) (by decide) (annOk_of_cuts ?_) eqk28
  have hc : Ann.cuts annk28 = [([1, 1, 1, 0, 1, 0], (cutEnt lk28_0 ok28_0 (loopO stepk28_0)))] := by kernel_rfl
  rw [hc]
  intro x hx
  simp only [List.mem_cons, List.not_mem_nil, or_false] at hx
  rcases hx with rfl
  · have e : Code.at' [1, 1, 1, 0, 1, 0] bodyk28 = Code.at' [1, 1, 1, 0, 1, 0] bodyk28 := by kernel_rfl
    rw [e]; exact okk28_0

theorem entk28 : EntOk Go.Proofs.Try.prog 28 (funEnt Sk28 Fk28) := fun_ok ck28 (fn := Go.Proofs.Try.f28) (c := bodyk28) (by kernel_rfl) (by kernel_rfl) (by kernel_rfl) rfl rfl (by decide) callsk28
noncomputable def Ek28 : List (Nat × Ent) := (28, funEnt Sk28 Fk28) :: Ek27
theorem Ek28_ok : EntsOk Go.Proofs.Try.prog (ofL Ek28) := .cons entk28 Ek27_ok

/-! ### barbican/barbicanref03.left -/
noncomputable def bodyk29 : Code := (Go.Proofs.Try.f29.body).getD .skip
noncomputable def Fk29 : Int × Int → Option (Int)
  | (a0, a1) =>
    if (a1 == 0) = true then
      some a0
    else
      if 0 ≤ (IntKind.u64.wrap a1) then
        if 0 ≤ (IntKind.u64.wrap (IntKind.i64.wrap (64 - a1))) then
          let x1 : Int := (shrI .u64 a0 (IntKind.u64.wrap (IntKind.i64.wrap (64 - a1))))
          let x2 : Int := (IntKind.u64.wrap ((shlI .u64 a0 (IntKind.u64.wrap a1)) + x1))
          some x2
        else none
      else none

noncomputable def annk29 : Ann := .none
abbrev Sk29 : FSh := ⟨[.val (.c (.int .u64)), .val (.c (.int .i64))], [.val (.c (.int .u64))], [.tmp 4]⟩
noncomputable def ck29 : Ctx Go.Proofs.Try.prog := ⟨ktab, ofL Ek28, ktabOk, Ek28_ok, kdep, kord⟩
theorem eqk29 : ∀ x : psT Sk29.ps, exec ktab (ofL Ek28) 18 bodyk29 annk29 (fin ktab Sk29) (argSt Sk29 x) = Fk29 x := by
  rintro ⟨a0, a1⟩
  kernel_rfl
theorem callsk29 : CallsAs Go.Proofs.Try.prog ck29 29 Sk29 Fk29 := by
  refine fun_calls (fn := Go.Proofs.Try.f29) (c := bodyk29) (ann := annk29) ck29 (by kernel_rfl) (by kernel_rfl) (by kernel_rfl) (by decide) (annOk_of_cuts ?_) eqk29
  intro x hx
  exact absurd hx (by show x ∉ ([] : List (List Nat × LEnt)); simp)

theorem entk29 : EntOk Go.Proofs.Try.prog 29 (funEnt Sk29 Fk29) := fun_ok ck29 (fn := Go.Proofs.Try.f29) (c := bodyk29) (by kernel_rfl) (by kernel_rfl) (by kernel_rfl) rfl rfl (by decide) callsk29
noncomputable def Ek29 : List (Nat × Ent) := (29, funEnt Sk29 Fk29) :: Ek28
theorem Ek29_ok : EntsOk Go.Proofs.Try.prog (ofL Ek29) := .cons entk29 Ek28_ok

/-! ### barbican/barbicanref03.Permute -/
noncomputable def bodyk10 : Code := (Go.Proofs.Try.f10.body).getD .skip
abbrev lk10_2 : Lay := ⟨[(1, .ptr 1 0 25), (2, .ptr 2 0 25), (3, .ptr 3 0 25), (4, .ptr 4 0 24), (6, .ptr 6 0 25)], [.env 5 (.c (.int .i64)), .env 7 (.c (.int .i64)), .env 8 (.c (.int .u64)), .env 9 (.c (.int .u64)), .env 10 (.c (.int .i64)), .reg 1 (.cells [.ints .u64 25]), .reg 2 (.cells [.ints .u64 25]), .reg 3 (.cells [.ints .i64 25]), .reg 4 (.cells [.ints .u64 24]), .reg 6 (.cells [.ints .u64 25])], [(1, 1), (2, 2), (3, 3), (4, 4), (6, 6)]⟩
abbrev ok10_2 : List (AExit × Lay) := [(.exit 4, ⟨[(1, .ptr 1 0 25), (2, .ptr 2 0 25), (3, .ptr 3 0 25), (4, .ptr 4 0 24), (6, .ptr 6 0 25)], [.env 5 (.c (.int .i64)), .env 7 (.c (.int .i64)), .env 8 (.c (.int .u64)), .env 9 (.c (.int .u64)), .reg 1 (.cells [.ints .u64 25]), .reg 2 (.cells [.ints .u64 25]), .reg 3 (.cells [.ints .i64 25]), .reg 4 (.cells [.ints .u64 24]), .reg 6 (.cells [.ints .u64 25])], [(1, 1), (2, 2), (3, 3), (4, 4), (6, 6)]⟩)]
noncomputable def stepk10_2 : Int × Int × Int × Int × Int × (Nat → Int) × (Nat → Int) × (Nat → Int) × (Nat → Int) × (Nat → Int) → Option ((Int × Int × Int × Int × Int × (Nat → Int) × (Nat → Int) × (Nat → Int) × (Nat → Int) × (Nat → Int)) ⊕ ((Int × Int × Int × Int × (Nat → Int) × (Nat → Int) × (Nat → Int) × (Nat → Int) × (Nat → Int))))
  | (t5, t7, t8, t9, t10, r1, r2, r3, r4, r6) =>
    if (decide (t10 < 5)) = true then
      let x3 : Int := (IntKind.i64.wrap (((IntKind.i64.wrap (t7 + 4)).tmod 5) + (IntKind.i64.wrap (5 * t10))))
      if (0 : Int) ≤ x3 ∧ x3 < ((25 : Int) : Int) then
        let x4 : Int := (IntKind.i64.wrap (((IntKind.i64.wrap (t7 + 1)).tmod 5) + (IntKind.i64.wrap (5 * t10))))
        if (0 : Int) ≤ x4 ∧ x4 < ((25 : Int) : Int) then
          some (.inl (t5, t7, (bitsXor .u64 t8 (r1 x3.toNat)), (bitsXor .u64 t9 (r1 x4.toNat)), (IntKind.i64.wrap (t10 + 1)), r1, r2, r3, r4, r6))
        else none
      else none
    else
      some (.inr (t5, t7, t8, t9, r1, r2, r3, r4, r6))

noncomputable def annk10_2 : Ann := .none
abbrev lk10_3 : Lay := ⟨[(1, .ptr 1 0 25), (2, .ptr 2 0 25), (3, .ptr 3 0 25), (4, .ptr 4 0 24), (6, .ptr 6 0 25)], [.env 5 (.c (.int .i64)), .env 7 (.c (.int .i64)), .env 8 (.c (.int .u64)), .env 9 (.c (.int .u64)), .env 11 (.c (.int .i64)), .reg 1 (.cells [.ints .u64 25]), .reg 2 (.cells [.ints .u64 25]), .reg 3 (.cells [.ints .i64 25]), .reg 4 (.cells [.ints .u64 24]), .reg 6 (.cells [.ints .u64 25])], [(1, 1), (2, 2), (3, 3), (4, 4), (6, 6)]⟩
abbrev ok10_3 : List (AExit × Lay) := [(.exit 6, ⟨[(1, .ptr 1 0 25), (2, .ptr 2 0 25), (3, .ptr 3 0 25), (4, .ptr 4 0 24), (6, .ptr 6 0 25)], [.env 5 (.c (.int .i64)), .env 7 (.c (.int .i64)), .reg 1 (.cells [.ints .u64 25]), .reg 2 (.cells [.ints .u64 25]), .reg 3 (.cells [.ints .i64 25]), .reg 4 (.cells [.ints .u64 24]), .reg 6 (.cells [.ints .u64 25])], [(1, 1), (2, 2), (3, 3), (4, 4), (6, 6)]⟩)]
noncomputable def stepk10_3 : Int × Int × Int × Int × Int × (Nat → Int) × (Nat → Int) × (Nat → Int) × (Nat → Int) × (Nat → Int) → Option ((Int × Int × Int × Int × Int × (Nat → Int) × (Nat → Int) × (Nat → Int) × (Nat → Int) × (Nat → Int)) ⊕ ((Int × Int × (Nat → Int) × (Nat → Int) × (Nat → Int) × (Nat → Int) × (Nat → Int))))
  | (t5, t7, t8, t9, t11, r1, r2, r3, r4, r6) =>
    if (decide (t11 < 5)) = true then
      if (0 : Int) ≤ (IntKind.i64.wrap (t7 + (IntKind.i64.wrap (5 * t11)))) ∧ (IntKind.i64.wrap (t7 + (IntKind.i64.wrap (5 * t11)))) < ((25 : Int) : Int) then
        let x14 : Int := (r1 (IntKind.i64.wrap (t7 + (IntKind.i64.wrap (5 * t11)))).toNat)
        (Fk29 (t9, 1)).bind fun y15 =>
          if (0 : Int) ≤ (IntKind.i64.wrap (t7 + (IntKind.i64.wrap (5 * t11)))) ∧ (IntKind.i64.wrap (t7 + (IntKind.i64.wrap (5 * t11)))) < ((25 : Int) : Int) then
            let f16 : Nat → Int := (upd r6 (IntKind.i64.wrap (t7 + (IntKind.i64.wrap (5 * t11)))).toNat (bitsXor .u64 (bitsXor .u64 x14 t8) y15))
            some (.inl (t5, t7, t8, t9, (IntKind.i64.wrap (t11 + 1)), r1, r2, r3, r4, f16))
          else none
      else none
    else
      some (.inr (t5, t7, r1, r2, r3, r4, r6))

noncomputable def annk10_3 : Ann := .none
abbrev lk10_1 : Lay := ⟨[(1, .ptr 1 0 25), (2, .ptr 2 0 25), (3, .ptr 3 0 25), (4, .ptr 4 0 24), (6, .ptr 6 0 25)], [.env 5 (.c (.int .i64)), .env 7 (.c (.int .i64)), .reg 1 (.cells [.ints .u64 25]), .reg 2 (.cells [.ints .u64 25]), .reg 3 (.cells [.ints .i64 25]), .reg 4 (.cells [.ints .u64 24]), .reg 6 (.cells [.ints .u64 25])], [(1, 1), (2, 2), (3, 3), (4, 4), (6, 6)]⟩
abbrev ok10_1 : List (AExit × Lay) := [(.exit 2, ⟨[(1, .ptr 1 0 25), (2, .ptr 2 0 25), (3, .ptr 3 0 25), (4, .ptr 4 0 24), (6, .ptr 6 0 25)], [.env 5 (.c (.int .i64)), .reg 1 (.cells [.ints .u64 25]), .reg 2 (.cells [.ints .u64 25]), .reg 3 (.cells [.ints .i64 25]), .reg 4 (.cells [.ints .u64 24]), .reg 6 (.cells [.ints .u64 25])], [(1, 1), (2, 2), (3, 3), (4, 4), (6, 6)]⟩)]
noncomputable def stepk10_1 : Int × Int × (Nat → Int) × (Nat → Int) × (Nat → Int) × (Nat → Int) × (Nat → Int) → Option ((Int × Int × (Nat → Int) × (Nat → Int) × (Nat → Int) × (Nat → Int) × (Nat → Int)) ⊕ ((Int × (Nat → Int) × (Nat → Int) × (Nat → Int) × (Nat → Int) × (Nat → Int))))
  | (t5, t7, r1, r2, r3, r4, r6) =>
    if (decide (t7 < 5)) = true then
      (loopO stepk10_2 (t5, t7, 0, 0, 0, r1, r2, r3, r4, r6)).bind fun (z5, z6, z7, z8, z9, z10, z11, z12, z13) =>
        (loopO stepk10_3 (z5, z6, z7, z8, 0, z9, z10, z11, z12, z13)).bind fun (z17, z18, z19, z20, z21, z22, z23) =>
          some (.inl (z17, (IntKind.i64.wrap (z18 + 1)), z19, z20, z21, z22, z23))
    else
      some (.inr (t5, r1, r2, r3, r4, r6))

noncomputable def annk10_1 : Ann := (.seq .none (.seq (.seq (.seq .none (.seq .none (.seq (.seq .none (.seq (.cut (cutEnt lk10_2 ok10_2 (loopO stepk10_2))) .none)) (.seq .none (.seq (.cut (cutEnt lk10_3 ok10_3 (loopO stepk10_3))) .none))))) .none) .none))
abbrev lk10_5 : Lay := ⟨[(1, .ptr 1 0 25), (2, .ptr 2 0 25), (3, .ptr 3 0 25), (4, .ptr 4 0 24), (6, .ptr 6 0 25), (12, .ptr 12 0 25)], [.env 5 (.c (.int .i64)), .env 13 (.c (.int .i64)), .env 14 (.c (.int .i64)), .reg 1 (.cells [.ints .u64 25]), .reg 2 (.cells [.ints .u64 25]), .reg 3 (.cells [.ints .i64 25]), .reg 4 (.cells [.ints .u64 24]), .reg 6 (.cells [.ints .u64 25]), .reg 12 (.cells [.ints .u64 25])], [(1, 1), (2, 2), (3, 3), (4, 4), (6, 6), (12, 12)]⟩
abbrev ok10_5 : List (AExit × Lay) := [(.exit 10, ⟨[(1, .ptr 1 0 25), (2, .ptr 2 0 25), (3, .ptr 3 0 25), (4, .ptr 4 0 24), (6, .ptr 6 0 25), (12, .ptr 12 0 25)], [.env 5 (.c (.int .i64)), .env 13 (.c (.int .i64)), .reg 1 (.cells [.ints .u64 25]), .reg 2 (.cells [.ints .u64 25]), .reg 3 (.cells [.ints .i64 25]), .reg 4 (.cells [.ints .u64 24]), .reg 6 (.cells [.ints .u64 25]), .reg 12 (.cells [.ints .u64 25])], [(1, 1), (2, 2), (3, 3), (4, 4), (6, 6), (12, 12)]⟩)]
noncomputable def stepk10_5 : Int × Int × Int × (Nat → Int) × (Nat → Int) × (Nat → Int) × (Nat → Int) × (Nat → Int) × (Nat → Int) → Option ((Int × Int × Int × (Nat → Int) × (Nat → Int) × (Nat → Int) × (Nat → Int) × (Nat → Int) × (Nat → Int)) ⊕ ((Int × Int × (Nat → Int) × (Nat → Int) × (Nat → Int) × (Nat → Int) × (Nat → Int) × (Nat → Int))))
  | (t5, t13, t14, r1, r2, r3, r4, r6, r12) =>
    if (decide (t14 < 5)) = true then
      let x30 : Int := (IntKind.i64.wrap ((IntKind.i64.wrap (2 * t13)) + (IntKind.i64.wrap (3 * t14))))
      let x31 : Int := (IntKind.i64.wrap (t14 + (IntKind.i64.wrap (5 * (x30.tmod 5)))))
      if (0 : Int) ≤ (IntKind.i64.wrap (t13 + (IntKind.i64.wrap (5 * t14)))) ∧ (IntKind.i64.wrap (t13 + (IntKind.i64.wrap (5 * t14)))) < ((25 : Int) : Int) then
        let x32 : Nat := (IntKind.i64.wrap (t13 + (IntKind.i64.wrap (5 * t14)))).toNat
        if (0 : Int) ≤ (IntKind.i64.wrap (t13 + (IntKind.i64.wrap (5 * t14)))) ∧ (IntKind.i64.wrap (t13 + (IntKind.i64.wrap (5 * t14)))) < ((25 : Int) : Int) then
          let x33 : Nat := (IntKind.i64.wrap (t13 + (IntKind.i64.wrap (5 * t14)))).toNat
          (Fk29 ((r6 x32), (r3 x33))).bind fun y34 =>
            if (0 : Int) ≤ x31 ∧ x31 < ((25 : Int) : Int) then
              some (.inl (t5, t13, (IntKind.i64.wrap (t14 + 1)), r1, r2, r3, r4, r6, (upd r12 x31.toNat y34)))
            else none
        else none
      else none
    else
      some (.inr (t5, t13, r1, r2, r3, r4, r6, r12))

noncomputable def annk10_5 : Ann := .none
abbrev lk10_4 : Lay := ⟨[(1, .ptr 1 0 25), (2, .ptr 2 0 25), (3, .ptr 3 0 25), (4, .ptr 4 0 24), (6, .ptr 6 0 25), (12, .ptr 12 0 25)], [.env 5 (.c (.int .i64)), .env 13 (.c (.int .i64)), .reg 1 (.cells [.ints .u64 25]), .reg 2 (.cells [.ints .u64 25]), .reg 3 (.cells [.ints .i64 25]), .reg 4 (.cells [.ints .u64 24]), .reg 6 (.cells [.ints .u64 25]), .reg 12 (.cells [.ints .u64 25])], [(1, 1), (2, 2), (3, 3), (4, 4), (6, 6), (12, 12)]⟩
abbrev ok10_4 : List (AExit × Lay) := [(.exit 8, ⟨[(1, .ptr 1 0 25), (2, .ptr 2 0 25), (3, .ptr 3 0 25), (4, .ptr 4 0 24), (12, .ptr 12 0 25)], [.env 5 (.c (.int .i64)), .reg 1 (.cells [.ints .u64 25]), .reg 2 (.cells [.ints .u64 25]), .reg 3 (.cells [.ints .i64 25]), .reg 4 (.cells [.ints .u64 24]), .reg 12 (.cells [.ints .u64 25])], [(1, 1), (2, 2), (3, 3), (4, 4), (12, 12)]⟩)]
noncomputable def stepk10_4 : Int × Int × (Nat → Int) × (Nat → Int) × (Nat → Int) × (Nat → Int) × (Nat → Int) × (Nat → Int) → Option ((Int × Int × (Nat → Int) × (Nat → Int) × (Nat → Int) × (Nat → Int) × (Nat → Int) × (Nat → Int)) ⊕ ((Int × (Nat → Int) × (Nat → Int) × (Nat → Int) × (Nat → Int) × (Nat → Int))))
  | (t5, t13, r1, r2, r3, r4, r6, r12) =>
    if (decide (t13 < 5)) = true then
      (loopO stepk10_5 (t5, t13, 0, r1, r2, r3, r4, r6, r12)).bind fun (z35, z36, z37, z38, z39, z40, z41, z42) =>
        some (.inl (z35, (IntKind.i64.wrap (z36 + 1)), z37, z38, z39, z40, z41, z42))
    else
      some (.inr (t5, r1, r2, r3, r4, r12))

noncomputable def annk10_4 : Ann := (.seq .none (.seq (.seq (.seq .none (.seq (.cut (cutEnt lk10_5 ok10_5 (loopO stepk10_5))) .none)) .none) .none))
abbrev lk10_7 : Lay := ⟨[(1, .ptr 1 0 25), (2, .ptr 2 0 25), (3, .ptr 3 0 25), (4, .ptr 4 0 24), (12, .ptr 12 0 25)], [.env 5 (.c (.int .i64)), .env 15 (.c (.int .i64)), .env 16 (.c (.int .i64)), .reg 1 (.cells [.ints .u64 25]), .reg 2 (.cells [.ints .u64 25]), .reg 3 (.cells [.ints .i64 25]), .reg 4 (.cells [.ints .u64 24]), .reg 12 (.cells [.ints .u64 25])], [(1, 1), (2, 2), (3, 3), (4, 4), (12, 12)]⟩
abbrev ok10_7 : List (AExit × Lay) := [(.exit 14, ⟨[(1, .ptr 1 0 25), (2, .ptr 2 0 25), (3, .ptr 3 0 25), (4, .ptr 4 0 24), (12, .ptr 12 0 25)], [.env 5 (.c (.int .i64)), .env 15 (.c (.int .i64)), .reg 1 (.cells [.ints .u64 25]), .reg 2 (.cells [.ints .u64 25]), .reg 3 (.cells [.ints .i64 25]), .reg 4 (.cells [.ints .u64 24]), .reg 12 (.cells [.ints .u64 25])], [(1, 1), (2, 2), (3, 3), (4, 4), (12, 12)]⟩)]
noncomputable def stepk10_7 : Int × Int × Int × (Nat → Int) × (Nat → Int) × (Nat → Int) × (Nat → Int) × (Nat → Int) → Option ((Int × Int × Int × (Nat → Int) × (Nat → Int) × (Nat → Int) × (Nat → Int) × (Nat → Int)) ⊕ ((Int × Int × (Nat → Int) × (Nat → Int) × (Nat → Int) × (Nat → Int) × (Nat → Int))))
  | (t5, t15, t16, r1, r2, r3, r4, r12) =>
    if (decide (t16 < 5)) = true then
      if (0 : Int) ≤ (IntKind.i64.wrap (t15 + (IntKind.i64.wrap (5 * t16)))) ∧ (IntKind.i64.wrap (t15 + (IntKind.i64.wrap (5 * t16)))) < ((25 : Int) : Int) then
        let x49 : Nat := (IntKind.i64.wrap (t15 + (IntKind.i64.wrap (5 * t16)))).toNat
        let x50 : Int := (IntKind.i64.wrap (((IntKind.i64.wrap (t15 + 1)).tmod 5) + (IntKind.i64.wrap (5 * t16))))
        if (0 : Int) ≤ x50 ∧ x50 < ((25 : Int) : Int) then
          let x51 : Int := (IntKind.i64.wrap (((IntKind.i64.wrap (t15 + 2)).tmod 5) + (IntKind.i64.wrap (5 * t16))))
          if (0 : Int) ≤ x51 ∧ x51 < ((25 : Int) : Int) then
            let x52 : Int := (bitsXor .u64 (r12 x49) (bitsAnd .u64 (notI .u64 (r12 x50.toNat)) (r12 x51.toNat)))
            if (0 : Int) ≤ (IntKind.i64.wrap (t15 + (IntKind.i64.wrap (5 * t16)))) ∧ (IntKind.i64.wrap (t15 + (IntKind.i64.wrap (5 * t16)))) < ((25 : Int) : Int) then
              let x53 : Nat := (IntKind.i64.wrap (t15 + (IntKind.i64.wrap (5 * t16)))).toNat
              some (.inl (t5, t15, (IntKind.i64.wrap (t16 + 1)), (upd r1 x53 x52), r2, r3, r4, r12))
            else none
          else none
        else none
      else none
    else
      some (.inr (t5, t15, r1, r2, r3, r4, r12))

noncomputable def annk10_7 : Ann := .none
abbrev lk10_6 : Lay := ⟨[(1, .ptr 1 0 25), (2, .ptr 2 0 25), (3, .ptr 3 0 25), (4, .ptr 4 0 24), (12, .ptr 12 0 25)], [.env 5 (.c (.int .i64)), .env 15 (.c (.int .i64)), .reg 1 (.cells [.ints .u64 25]), .reg 2 (.cells [.ints .u64 25]), .reg 3 (.cells [.ints .i64 25]), .reg 4 (.cells [.ints .u64 24]), .reg 12 (.cells [.ints .u64 25])], [(1, 1), (2, 2), (3, 3), (4, 4), (12, 12)]⟩
abbrev ok10_6 : List (AExit × Lay) := [(.exit 12, ⟨[(1, .ptr 1 0 25), (2, .ptr 2 0 25), (3, .ptr 3 0 25), (4, .ptr 4 0 24)], [.env 5 (.c (.int .i64)), .reg 1 (.cells [.ints .u64 25]), .reg 2 (.cells [.ints .u64 25]), .reg 3 (.cells [.ints .i64 25]), .reg 4 (.cells [.ints .u64 24])], [(1, 1), (2, 2), (3, 3), (4, 4)]⟩)]
noncomputable def stepk10_6 : Int × Int × (Nat → Int) × (Nat → Int) × (Nat → Int) × (Nat → Int) × (Nat → Int) → Option ((Int × Int × (Nat → Int) × (Nat → Int) × (Nat → Int) × (Nat → Int) × (Nat → Int)) ⊕ ((Int × (Nat → Int) × (Nat → Int) × (Nat → Int) × (Nat → Int))))
  | (t5, t15, r1, r2, r3, r4, r12) =>
    if (decide (t15 < 5)) = true then
      (loopO stepk10_7 (t5, t15, 0, r1, r2, r3, r4, r12)).bind fun (z54, z55, z56, z57, z58, z59, z60) =>
        some (.inl (z54, (IntKind.i64.wrap (z55 + 1)), z56, z57, z58, z59, z60))
    else
      some (.inr (t5, r1, r2, r3, r4))

noncomputable def annk10_6 : Ann := (.seq .none (.seq (.seq (.seq .none (.seq (.cut (cutEnt lk10_7 ok10_7 (loopO stepk10_7))) .none)) .none) .none))
abbrev lk10_0 : Lay := ⟨[(1, .ptr 1 0 25), (2, .ptr 2 0 25), (3, .ptr 3 0 25), (4, .ptr 4 0 24)], [.env 5 (.c (.int .i64)), .reg 1 (.cells [.ints .u64 25]), .reg 2 (.cells [.ints .u64 25]), .reg 3 (.cells [.ints .i64 25]), .reg 4 (.cells [.ints .u64 24])], [(1, 1), (2, 2), (3, 3), (4, 4)]⟩
abbrev ok10_0 : List (AExit × Lay) := [(.exit 0, ⟨[(1, .ptr 1 0 25), (2, .ptr 2 0 25)], [.reg 1 (.cells [.ints .u64 25]), .reg 2 (.cells [.ints .u64 25])], [(1, 1), (2, 2)]⟩)]
noncomputable def stepk10_0 : Int × (Nat → Int) × (Nat → Int) × (Nat → Int) × (Nat → Int) → Option ((Int × (Nat → Int) × (Nat → Int) × (Nat → Int) × (Nat → Int)) ⊕ (((Nat → Int) × (Nat → Int))))
  | (t5, r1, r2, r3, r4) =>
    if (decide (t5 < 24)) = true then
      (loopO stepk10_1 (t5, 0, r1, r2, r3, r4, (fun _ => 0))).bind fun (z24, z25, z26, z27, z28, z29) =>
        (loopO stepk10_4 (z24, 0, z25, z26, z27, z28, z29, (fun _ => 0))).bind fun (z43, z44, z45, z46, z47, z48) =>
          (loopO stepk10_6 (z43, 0, z44, z45, z46, z47, z48)).bind fun (z61, z62, z63, z64, z65) =>
            if (0 : Int) ≤ z61 ∧ z61 < ((24 : Int) : Int) then
              some (.inl ((IntKind.i64.wrap (z61 + 1)), (upd z62 0 (bitsXor .u64 (z62 0) (z65 z61.toNat))), z63, z64, z65))
            else none
    else
      some (.inr (r1, r2))

noncomputable def annk10_0 : Ann := (.seq .none (.seq (.seq (.seq .none (.seq (.seq .none (.seq (.cut (cutEnt lk10_1 ok10_1 (loopO stepk10_1))) .none)) (.seq .none (.seq (.seq .none (.seq (.cut (cutEnt lk10_4 ok10_4 (loopO stepk10_4))) .none)) (.seq (.seq .none (.seq (.cut (cutEnt lk10_6 ok10_6 (loopO stepk10_6))) .none)) .none))))) .none) .none))
noncomputable def Fk10 : (Nat → Int) → Option ((Nat → Int))
  | a0 =>
    (Fk27 ()).bind fun y1 =>
      (Fk28 ()).bind fun y2 =>
        (loopO stepk10_0 (0, a0, (fun _ => 0), y1, y2)).bind fun (z66, z67) =>
          some z66

noncomputable def annk10 : Ann := (.seq .none (.seq .none (.seq .none (.seq (.seq .none (.seq (.cut (cutEnt lk10_0 ok10_0 (loopO stepk10_0))) .none)) .none))))
abbrev Sk10 : FSh := ⟨[.val (.agg [.ints .u64 25])], [.val (.agg [.ints .u64 25])], [.cell 2 23]⟩
noncomputable def ck10 : Ctx Go.Proofs.Try.prog := ⟨ktab, ofL Ek29, ktabOk, Ek29_ok, kdep, kord⟩
theorem eqk10_2 : ∀ s : lk10_2.T, exec ktab (ofL Ek29) 148 (Code.at' [1, 1, 1, 0, 1, 0, 0, 1, 0, 0, 1, 0, 1, 0, 0, 1, 0, 0, 1, 1, 0, 1, 0, 0] bodyk10) annk10_2 (fun e st => loopEnd (l := lk10_2) (outs := ok10_2) e st) (lk10_2.enc s) = stepk10_2 s := by
  rintro ⟨t5, t7, t8, t9, t10, r1, r2, r3, r4, r6⟩
  kernel_rfl
theorem okk10_2 : LOk Go.Proofs.Try.prog 148 (cutEnt lk10_2 ok10_2 (loopO stepk10_2)) (Code.at' [1, 1, 1, 0, 1, 0, 0, 1, 0, 0, 1, 0, 1, 0, 0, 1, 0, 0, 1, 1, 0, 1, 0] bodyk10) := by
  have e : Code.at' [1, 1, 1, 0, 1, 0, 0, 1, 0, 0, 1, 0, 1, 0, 0, 1, 0, 0, 1, 1, 0, 1, 0] bodyk10 = .loop (Code.at' [1, 1, 1, 0, 1, 0, 0, 1, 0, 0, 1, 0, 1, 0, 0, 1, 0, 0, 1, 1, 0, 1, 0, 0] bodyk10) := by kernel_rfl
  rw [e]
  refine loop_ok ck10 148 rfl rfl (annOk_of_cuts ?_) eqk10_2
  intro x hx
  exact absurd hx (by show x ∉ ([] : List (List Nat × LEnt)); simp)

theorem eqk10_3 : ∀ s : lk10_3.T, exec ktab (ofL Ek29) 148 (Code.at' [1, 1, 1, 0, 1, 0, 0, 1, 0, 0, 1, 0, 1, 0, 0, 1, 0, 0, 1, 1, 1, 1, 0, 0] bodyk10) annk10_3 (fun e st => loopEnd (l := lk10_3) (outs := ok10_3) e st) (lk10_3.enc s) = stepk10_3 s := by
  rintro ⟨t5, t7, t8, t9, t11, r1, r2, r3, r4, r6⟩
  kernel_rfl
theorem okk10_3 : LOk Go.Proofs.Try.prog 148 (cutEnt lk10_3 ok10_3 (loopO stepk10_3)) (Code.at' [1, 1, 1, 0, 1, 0, 0, 1, 0, 0, 1, 0, 1, 0, 0, 1, 0, 0, 1, 1, 1, 1, 0] bodyk10) := by
  have e : Code.at' [1, 1, 1, 0, 1, 0, 0, 1, 0, 0, 1, 0, 1, 0, 0, 1, 0, 0, 1, 1, 1, 1, 0] bodyk10 = .loop (Code.at' [1, 1, 1, 0, 1, 0, 0, 1, 0, 0, 1, 0, 1, 0, 0, 1, 0, 0, 1, 1, 1, 1, 0, 0] bodyk10) := by kernel_rfl
  rw [e]
  refine loop_ok ck10 148 rfl rfl (annOk_of_cuts ?_) eqk10_3
  intro x hx
  exact absurd hx (by show x ∉ ([] : List (List Nat × LEnt)); simp)

theorem eqk10_1 : ∀ s : lk10_1.T, exec ktab (ofL Ek29) 148 (Code.at' [1, 1, 1, 0, 1, 0, 0, 1, 0, 0, 1, 0, 1, 0, 0] bodyk10) annk10_1 (fun e st => loopEnd (l := lk10_1) (outs := ok10_1) e st) (lk10_1.enc s) = stepk10_1 s := by
  rintro ⟨t5, t7, r1, r2, r3, r4, r6⟩
  kernel_rfl
theorem okk10_1 : LOk Go.Proofs.Try.prog 148 (cutEnt lk10_1 ok10_1 (loopO stepk10_1)) (Code.at' [1, 1, 1, 0, 1, 0, 0, 1, 0, 0, 1, 0, 1, 0] bodyk10) := by
  have e : Code.at' [1, 1, 1, 0, 1, 0, 0, 1, 0, 0, 1, 0, 1, 0] bodyk10 = .loop (Code.at' [1, 1, 1, 0, 1, 0, 0, 1, 0, 0, 1, 0, 1, 0, 0] bodyk10) := by kernel_rfl
  rw [e]
  refine loop_ok ck10 148 rfl rfl (annOk_of_cuts ?_) eqk10_1
  have hc : Ann.cuts annk10_1 = [([1, 0, 0, 1, 1, 0, 1, 0], (cutEnt lk10_2 ok10_2 (loopO stepk10_2))), ([1, 0, 0, 1, 1, 1, 1, 0], (cutEnt lk10_3 ok10_3 (loopO stepk10_3)))] := by kernel_rfl
  rw [hc]
  intro x hx
  simp only [List.mem_cons, List.not_mem_nil, or_false] at hx
  rcases hx with rfl | rfl
  · have e : Code.at' [1, 0, 0, 1, 1, 0, 1, 0] (Code.at' [1, 1, 1, 0, 1, 0, 0, 1, 0, 0, 1, 0, 1, 0, 0] bodyk10) = Code.at' [1, 1, 1, 0, 1, 0, 0, 1, 0, 0, 1, 0, 1, 0, 0, 1, 0, 0, 1, 1, 0, 1, 0] bodyk10 := by kernel_rfl
    rw [e]; exact okk10_2
  · have e : Code.at' [1, 0, 0, 1, 1, 1, 1, 0] (Code.at' [1, 1, 1, 0, 1, 0, 0, 1, 0, 0, 1, 0, 1, 0, 0] bodyk10) = Code.at' [1, 1, 1, 0, 1, 0, 0, 1, 0, 0, 1, 0, 1, 0, 0, 1, 0, 0, 1, 1, 1, 1, 0] bodyk10 := by kernel_rfl
    rw [e]; exact okk10_3

theorem eqk10_5 : ∀ s : lk10_5.T, exec ktab (ofL Ek29) 148 (Code.at' [1, 1, 1, 0, 1, 0, 0, 1, 0, 0, 1, 1, 1, 0, 1, 0, 0, 1, 0, 0, 1, 0, 0] bodyk10) annk10_5 (fun e st => loopEnd (l := lk10_5) (outs := ok10_5) e st) (lk10_5.enc s) = stepk10_5 s := by
  rintro ⟨t5, t13, t14, r1, r2, r3, r4, r6, r12⟩
  kernel_rfl
theorem okk10_5 : LOk Go.Proofs.Try.prog 148 (cutEnt lk10_5 ok10_5 (loopO stepk10_5)) (Code.at' [1, 1, 1, 0, 1, 0, 0, 1, 0, 0, 1, 1, 1, 0, 1, 0, 0, 1, 0, 0, 1, 0] bodyk10) := by
  have e : Code.at' [1, 1, 1, 0, 1, 0, 0, 1, 0, 0, 1, 1, 1, 0, 1, 0, 0, 1, 0, 0, 1, 0] bodyk10 = .loop (Code.at' [1, 1, 1, 0, 1, 0, 0, 1, 0, 0, 1, 1, 1, 0, 1, 0, 0, 1, 0, 0, 1, 0, 0] bodyk10) := by kernel_rfl
  rw [e]
  refine loop_ok ck10 148 rfl rfl (annOk_of_cuts ?_) eqk10_5
  intro x hx
  exact absurd hx (by show x ∉ ([] : List (List Nat × LEnt)); simp)

theorem eqk10_4 : ∀ s : lk10_4.T, exec ktab (ofL Ek29) 148 (Code.at' [1, 1, 1, 0, 1, 0, 0, 1, 0, 0, 1, 1, 1, 0, 1, 0, 0] bodyk10) annk10_4 (fun e st => loopEnd (l := lk10_4) (outs := ok10_4) e st) (lk10_4.enc s) = stepk10_4 s := by
  rintro ⟨t5, t13, r1, r2, r3, r4, r6, r12⟩
  kernel_rfl
theorem okk10_4 : LOk Go.Proofs.Try.prog 148 (cutEnt lk10_4 ok10_4 (loopO stepk10_4)) (Code.at' [1, 1, 1, 0, 1, 0, 0, 1, 0, 0, 1, 1, 1, 0, 1, 0] bodyk10) := by
  have e : Code.at' [1, 1, 1, 0, 1, 0, 0, 1, 0, 0, 1, 1, 1, 0, 1, 0] bodyk10 = .loop (Code.at' [1, 1, 1, 0, 1, 0, 0, 1, 0, 0, 1, 1, 1, 0, 1, 0, 0] bodyk10) := by kernel_rfl
  rw [e]
  refine loop_ok ck10 148 rfl rfl (annOk_of_cuts ?_) eqk10_4
  have hc : Ann.cuts annk10_4 = [([1, 0, 0, 1, 0], (cutEnt lk10_5 ok10_5 (loopO stepk10_5)))] := by kernel_rfl
  rw [hc]
  intro x hx
  simp only [List.mem_cons, List.not_mem_nil, or_false] at hx
  rcases hx with rfl
  · have e : Code.at' [1, 0, 0, 1, 0] (Code.at' [1, 1, 1, 0, 1, 0, 0, 1, 0, 0, 1, 1, 1, 0, 1, 0, 0] bodyk10) = Code.at' [1, 1, 1, 0, 1, 0, 0, 1, 0, 0, 1, 1, 1, 0, 1, 0, 0, 1, 0, 0, 1, 0] bodyk10 := by kernel_rfl
    rw [e]; exact okk10_5

theorem eqk10_7 : ∀ s : lk10_7.T, exec ktab (ofL Ek29) 148 (Code.at' [1, 1, 1, 0, 1, 0, 0, 1, 0, 0, 1, 1, 1, 1, 0, 1, 0, 0, 1, 0, 0, 1, 0, 0] bodyk10) annk10_7 (fun e st => loopEnd (l := lk10_7) (outs := ok10_7) e st) (lk10_7.enc s) = stepk10_7 s := by
  rintro ⟨t5, t15, t16, r1, r2, r3, r4, r12⟩
  kernel_rfl
theorem okk10_7 : LOk Go.Proofs.Try.prog 148 (cutEnt lk10_7 ok10_7 (loopO stepk10_7)) (Code.at' [1, 1, 1, 0, 1, 0, 0, 1, 0, 0, 1, 1, 1, 1, 0, 1, 0, 0, 1, 0, 0, 1, 0] bodyk10) := by
  have e : Code.at' [1, 1, 1, 0, 1, 0, 0, 1, 0, 0, 1, 1, 1, 1, 0, 1, 0, 0, 1, 0, 0, 1, 0] bodyk10 = .loop (Code.at' [1, 1, 1, 0, 1, 0, 0, 1, 0, 0, 1, 1, 1, 1, 0, 1, 0, 0, 1, 0, 0, 1, 0, 0] bodyk10) := by kernel_rfl
  rw [e]
  refine loop_ok ck10 148 rfl rfl (annOk_of_cuts ?_) eqk10_7
  intro x hx
  exact absurd hx (by show x ∉ ([] : List (List Nat × LEnt)); simp)

theorem eqk10_6 : ∀ s : lk10_6.T, exec ktab (ofL Ek29) 148 (Code.at' [1, 1, 1, 0, 1, 0, 0, 1, 0, 0, 1, 1, 1, 1, 0, 1, 0, 0] bodyk10) annk10_6 (fun e st => loopEnd (l := lk10_6) (outs := ok10_6) e st) (lk10_6.enc s) = stepk10_6 s := by
  rintro ⟨t5, t15, r1, r2, r3, r4, r12⟩
  kernel_rfl
theorem okk10_6 : LOk Go.Proofs.Try.prog 148 (cutEnt lk10_6 ok10_6 (loopO stepk10_6)) (Code.at' [1, 1, 1, 0, 1, 0, 0, 1, 0, 0, 1, 1, 1, 1, 0, 1, 0] bodyk10) := by
  have e : Code.at' [1, 1, 1, 0, 1, 0, 0, 1, 0, 0, 1, 1, 1, 1, 0, 1, 0] bodyk10 = .loop (Code.at' [1, 1, 1, 0, 1, 0, 0, 1, 0, 0, 1, 1, 1, 1, 0, 1, 0, 0] bodyk10) := by kernel_rfl
  rw [e]
  refine loop_ok ck10 148 rfl rfl (annOk_of_cuts ?_) eqk10_6
  have hc : Ann.cuts annk10_6 = [([1, 0, 0, 1, 0], (cutEnt lk10_7 ok10_7 (loopO stepk10_7)))] := by kernel_rfl
  rw [hc]
  intro x hx
  simp only [List.mem_cons, List.not_mem_nil, or_false] at hx
  rcases hx with rfl
  · have e : Code.at' [1, 0, 0, 1, 0] (Code.at' [1, 1, 1, 0, 1, 0, 0, 1, 0, 0, 1, 1, 1, 1, 0, 1, 0, 0] bodyk10) = Code.at' [1, 1, 1, 0, 1, 0, 0, 1, 0, 0, 1, 1, 1, 1, 0, 1, 0, 0, 1, 0, 0, 1, 0] bodyk10 := by kernel_rfl
    rw [e]; exact okk10_7

theorem eqk10_0 : ∀ s : lk10_0.T, exec ktab (ofL Ek29) 148 (Code.at' [1, 1, 1, 0, 1, 0, 0] bodyk10) annk10_0 (fun e st => loopEnd (l := lk10_0) (outs := ok10_0) e st) (lk10_0.enc s) = stepk10_0 s := by
  rintro ⟨t5, r1, r2, r3, r4⟩
  kernel_rfl
theorem okk10_0 : LOk Go.Proofs.Try.prog 148 (cutEnt lk10_0 ok10_0 (loopO stepk10_0)) (Code.at' [1, 1, 1, 0, 1, 0] bodyk10) := by
  have e : Code.at' [1, 1, 1, 0, 1, 0] bodyk10 = .loop (Code.at' [1, 1, 1, 0, 1, 0, 0] bodyk10) := by kernel_rfl
  rw [e]
  refine loop_ok ck10 148 rfl rfl (annOk_of_cuts ?_) eqk10_0
  have hc : Ann.cuts annk10_0 = [([1, 0, 0, 1, 0, 1, 0], (cutEnt lk10_1 ok10_1 (loopO stepk10_1))), ([1, 0, 0, 1, 1, 1, 0, 1, 0], (cutEnt lk10_4 ok10_4 (loopO stepk10_4))), ([1, 0, 0, 1, 1, 1, 1, 0, 1, 0], (cutEnt lk10_6 ok10_6 (loopO stepk10_6)))] := by kernel_rfl
  rw [hc]
  intro x hx
  simp only [List.mem_cons, List.not_mem_nil, or_false] at hx
  rcases hx with rfl | rfl | rfl
  · have e : Code.at' [1, 0, 0, 1, 0, 1, 0] (Code.at' [1, 1, 1, 0, 1, 0, 0] bodyk10) = Code.at' [1, 1, 1, 0, 1, 0, 0, 1, 0, 0, 1, 0, 1, 0] bodyk10 := by kernel_rfl
    rw [e]; exact okk10_1
  · have e : Code.at' [1, 0, 0, 1, 1, 1, 0, 1, 0] (Code.at' [1, 1, 1, 0, 1, 0, 0] bodyk10) = Code.at' [1, 1, 1, 0, 1, 0, 0, 1, 0, 0, 1, 1, 1, 0, 1, 0] bodyk10 := by kernel_rfl
    rw [e]; exact okk10_4
  · have e : Code.at' [1, 0, 0, 1, 1, 1, 1, 0, 1, 0] (Code.at' [1, 1, 1, 0, 1, 0, 0] bodyk10) = Code.at' [1, 1, 1, 0, 1, 0, 0, 1, 0, 0, 1, 1, 1, 1, 0, 1, 0] bodyk10 := by kernel_rfl
    rw [e]; exact okk10_6

theorem eqk10 : ∀ x : psT Sk10.ps, exec ktab (ofL Ek29) 148 bodyk10 annk10 (fin ktab Sk10) (argSt Sk10 x) = Fk10 x := by
  intro x
  kernel_rfl
theorem callsk10 : CallsAs Go.Proofs.Try.prog ck10 10 Sk10 Fk10 := by
  refine fun_calls (fn := Go.Proofs.Try.f10) (c := bodyk10) (ann := annk10) ck10 (by kernel_rfl) (by kernel_rfl) (by kernel_rfl) (by decide) (annOk_of_cuts ?_) eqk10
  have hc : Ann.cuts annk10 = [([1, 1, 1, 0, 1, 0], (cutEnt lk10_0 ok10_0 (loopO stepk10_0)))] := by kernel_rfl
  rw [hc]
  intro x hx
  simp only [List.mem_cons, List.not_mem_nil, or_false] at hx
  rcases hx with rfl
  · have e : Code.at' [1, 1, 1, 0, 1, 0] bodyk10 = Code.at' [1, 1, 1, 0, 1, 0] bodyk10 := by kernel_rfl
    rw [e]; exact okk10_0

theorem entk10 : EntOk Go.Proofs.Try.prog 10 (funEnt Sk10 Fk10) := fun_ok ck10 (fn := Go.Proofs.Try.f10) (c := bodyk10) (by kernel_rfl) (by kernel_rfl) (by kernel_rfl) rfl rfl (by decide) callsk10
noncomputable def Ek10 : List (Nat × Ent) := (10, funEnt Sk10 Fk10) :: Ek29
theorem Ek10_ok : EntsOk Go.Proofs.Try.prog (ofL Ek10) := .cons entk10 Ek29_ok

/-! ### barbican/barbicanlaw03.KecPermutes -/
noncomputable def bodyk3 : Code := (Go.Proofs.Try.f3.body).getD .skip
noncomputable def Fk3 : (Nat → Int) × (Nat → Int) → Option (Bool)
  | (a0, a1) =>
    (Fk8 ()).bind fun y1 =>
      (Fk9 a0).bind fun y2 =>
        (Fk9 a1).bind fun y3 =>
          if y1 = true then
            (Fk10 a0).bind fun y4 =>
              if (arrEq 25 y2 y4) = true then
                (Fk10 a1).bind fun y5 =>
                  if (arrEq 25 y3 y5) = true then
                    some ((arrEq 25 y2 y3) == (arrEq 25 a0 a1))
                  else
                    some false
              else
                some false
          else
            some false

noncomputable def annk3 : Ann := .none
abbrev Sk3 : FSh := ⟨[.val (.agg [.ints .u64 25]), .val (.agg [.ints .u64 25])], [.val (.c (.bool))], [.tmp 4]⟩
noncomputable def ck3 : Ctx Go.Proofs.Try.prog := ⟨ktab, ofL Ek10, ktabOk, Ek10_ok, kdep, kord⟩
theorem eqk3 : ∀ x : psT Sk3.ps, exec ktab (ofL Ek10) 35 bodyk3 annk3 (fin ktab Sk3) (argSt Sk3 x) = Fk3 x := by
  rintro ⟨a0, a1⟩
  kernel_rfl
theorem callsk3 : CallsAs Go.Proofs.Try.prog ck3 3 Sk3 Fk3 := by
  refine fun_calls (fn := Go.Proofs.Try.f3) (c := bodyk3) (ann := annk3) ck3 (by kernel_rfl) (by kernel_rfl) (by kernel_rfl) (by decide) (annOk_of_cuts ?_) eqk3
  intro x hx
  exact absurd hx (by show x ∉ ([] : List (List Nat × LEnt)); simp)

theorem entk3 : EntOk Go.Proofs.Try.prog 3 (funEnt Sk3 Fk3) := fun_ok ck3 (fn := Go.Proofs.Try.f3) (c := bodyk3) (by kernel_rfl) (by kernel_rfl) (by kernel_rfl) rfl rfl (by decide) callsk3
noncomputable def Ek3 : List (Nat × Ent) := (3, funEnt Sk3 Fk3) :: Ek10
theorem Ek3_ok : EntsOk Go.Proofs.Try.prog (ofL Ek3) := .cons entk3 Ek10_ok

/-! ### barbican/keccak.Shake -/
noncomputable def bodyk14 : Code := (Go.Proofs.Try.f14.body).getD .skip
noncomputable def Fk14 : Int × List Int × Int → Option (List Int × Int)
  | (a0, a1, a2) =>
    if (a0 != 4) = true then
      if (a0 != 5) = true then
        some ([], 31)
      else
        if (decide (a2 < 0)) = false then
          if (decide (a2 > 65536)) = true then
            some ([], 1)
          else
            (Fk31 (a0, a1, a2)).bind fun y1 =>
              some (y1, 0)
        else
          some ([], 1)
    else
      if (decide (a2 < 0)) = false then
        if (decide (a2 > 65536)) = true then
          some ([], 1)
        else
          (Fk31 (a0, a1, a2)).bind fun y2 =>
            some (y2, 0)
      else
        some ([], 1)

noncomputable def annk14 : Ann := .none
abbrev Sk14 : FSh := ⟨[.val (.c (.int .i64)), .ints .u8, .val (.c (.int .i64))], [.row 5 .u8, .val (.c (.int .i64))], [.tmp 6, .tmp 7]⟩
noncomputable def ck14 : Ctx Go.Proofs.Try.prog := ⟨ktab, ofL Ek3, ktabOk, Ek3_ok, kdep, kord⟩
theorem eqk14 : ∀ x : psT Sk14.ps, exec ktab (ofL Ek3) 26 bodyk14 annk14 (fin ktab Sk14) (argSt Sk14 x) = Fk14 x := by
  rintro ⟨a0, a1, a2⟩
  kernel_rfl
theorem callsk14 : CallsAs Go.Proofs.Try.prog ck14 14 Sk14 Fk14 := by
  refine fun_calls (fn := Go.Proofs.Try.f14) (c := bodyk14) (ann := annk14) ck14 (by kernel_rfl) (by kernel_rfl) (by kernel_rfl) (by decide) (annOk_of_cuts ?_) eqk14
  intro x hx
  exact absurd hx (by show x ∉ ([] : List (List Nat × LEnt)); simp)

theorem entk14 : EntOk Go.Proofs.Try.prog 14 (funEnt Sk14 Fk14) := fun_ok ck14 (fn := Go.Proofs.Try.f14) (c := bodyk14) (by kernel_rfl) (by kernel_rfl) (by kernel_rfl) rfl rfl (by decide) callsk14
noncomputable def Ek14 : List (Nat × Ent) := (14, funEnt Sk14 Fk14) :: Ek3
theorem Ek14_ok : EntsOk Go.Proofs.Try.prog (ofL Ek14) := .cons entk14 Ek3_ok

/-! ### barbican/barbicanref02.Same -/
noncomputable def bodyk15 : Code := (Go.Proofs.Try.f15.body).getD .skip
abbrev lk15_0 : Lay := ⟨[], [.env 0 (.c (.fz (.int .u8))), .env 1 (.c (.fz (.int .u8))), .env 5 (.c (.int .i64))], []⟩
abbrev ok15_0 : List (AExit × Lay) := [(.ret, ⟨[], [.env 4 (.c (.bool))], []⟩), (.exit 0, ⟨[], [], []⟩)]
noncomputable def stepk15_0 : (List Int) × (List Int) × Int → Option (((List Int) × (List Int) × Int) ⊕ ((Bool) ⊕ (Unit)))
  | (t0, t1, t5) =>
    if (decide (t5 < (t0.length : Int))) = true then
      if (0 : Int) ≤ t5 ∧ t5 < (t0.length : Int) then
        if (0 : Int) ≤ t5 ∧ t5 < (t1.length : Int) then
          if ((t0.getD t5.toNat 0) != (t1.getD t5.toNat 0)) = true then
            some (.inr (.inl false))
          else
            some (.inl (t0, t1, (IntKind.i64.wrap (t5 + 1))))
        else none
      else none
    else
      some (.inr (.inr ()))

noncomputable def annk15_0 : Ann := .none
noncomputable def Fk15 : List Int × List Int → Option (Bool)
  | (a0, a1) =>
    if ((a0.length : Int) != (a1.length : Int)) = true then
      some false
    else
      (loopO stepk15_0 (a0, a1, 0)).bind fun
        | (.inl z2) =>
          some z2
        | (.inr _) =>
          some true

noncomputable def annk15 : Ann := (.seq .none (.seq .none (.seq (.seq .none (.seq (.cut (cutEnt lk15_0 ok15_0 (loopO stepk15_0))) .none)) .none)))
abbrev Sk15 : FSh := ⟨[.ints .u8, .ints .u8], [.val (.c (.bool))], [.tmp 4]⟩
noncomputable def ck15 : Ctx Go.Proofs.Try.prog := ⟨ktab, ofL Ek14, ktabOk, Ek14_ok, kdep, kord⟩
theorem eqk15_0 : ∀ s : lk15_0.T, exec ktab (ofL Ek14) 26 (Code.at' [1, 1, 0, 1, 0, 0] bodyk15) annk15_0 (fun e st => loopEnd (l := lk15_0) (outs := ok15_0) e st) (lk15_0.enc s) = stepk15_0 s := by
  rintro ⟨t0, t1, t5⟩
  kernel_rfl
theorem okk15_0 : LOk Go.Proofs.Try.prog 26 (cutEnt lk15_0 ok15_0 (loopO stepk15_0)) (Code.at' [1, 1, 0, 1, 0] bodyk15) := by
  have e : Code.at' [1, 1, 0, 1, 0] bodyk15 = .loop (Code.at' [1, 1, 0, 1, 0, 0] bodyk15) := by kernel_rfl
  rw [e]
  refine loop_ok ck15 26 rfl rfl (annOk_of_cuts ?_) eqk15_0
  intro x hx
  exact absurd hx (by show x ∉ ([] : List (List Nat × LEnt)); simp)

theorem eqk15 : ∀ x : psT Sk15.ps, exec ktab (ofL Ek14) 26 bodyk15 annk15 (fin ktab Sk15) (argSt Sk15 x) = Fk15 x := by
  rintro ⟨a0, a1⟩
  kernel_rfl
theorem callsk15 : CallsAs Go.Proofs.Try.prog ck15 15 Sk15 Fk15 := by
  refine fun_calls (fn := Go.Proofs.Try.f15) (c := bodyk15) (ann := annk15) ck15 (by kernel_rfl) (by kernel_rfl) (by kernel_rfl) (by decide) (annOk_of_cuts ?_) eqk15
  have hc : Ann.cuts annk15 = [([1, 1, 0, 1, 0], (cutEnt lk15_0 ok15_0 (loopO stepk15_0)))] := by kernel_rfl
  rw [hc]
  intro x hx
  simp only [List.mem_cons, List.not_mem_nil, or_false] at hx
  rcases hx with rfl
  · have e : Code.at' [1, 1, 0, 1, 0] bodyk15 = Code.at' [1, 1, 0, 1, 0] bodyk15 := by kernel_rfl
    rw [e]; exact okk15_0

theorem entk15 : EntOk Go.Proofs.Try.prog 15 (funEnt Sk15 Fk15) := fun_ok ck15 (fn := Go.Proofs.Try.f15) (c := bodyk15) (by kernel_rfl) (by kernel_rfl) (by kernel_rfl) rfl rfl (by decide) callsk15
noncomputable def Ek15 : List (Nat × Ent) := (15, funEnt Sk15 Fk15) :: Ek14
theorem Ek15_ok : EntsOk Go.Proofs.Try.prog (ofL Ek15) := .cons entk15 Ek14_ok

/-! ### barbican/barbicanlaw03.KecPieces -/
noncomputable def bodyk4 : Code := (Go.Proofs.Try.f4.body).getD .skip
abbrev lk4_0 : Lay := ⟨[(9, .ptr 28 0 29), (11, .full 11)], [.env 0 (.c (.fz (.sl (.int .u8)))), .env 1 (.c (.fz (.int .i64))), .env 8 (.c (.int .i64)), .env 12 (.c (.int .i64)), .reg 28 (.cells [.int .i64, .ints .u64 25, .int .i64, .bool, .int .i64]), .reg 11 (.row 5 .u8)], [(28, 9), (11, 11)]⟩
abbrev ok4_0 : List (AExit × Lay) := [(.ret, ⟨[], [.env 6 (.c (.bool))], []⟩), (.exit 0, ⟨[(9, .ptr 28 0 29), (11, .full 11)], [.env 1 (.c (.fz (.int .i64))), .env 8 (.c (.int .i64)), .reg 28 (.cells [.int .i64, .ints .u64 25, .int .i64, .bool, .int .i64]), .reg 11 (.row 5 .u8)], [(28, 9), (11, 11)]⟩)]
noncomputable def stepk4_0 : (List (List Int)) × (List Int) × Int × Int × (Int × (Nat → Int) × Int × Bool × Int) × List Int → Option (((List (List Int)) × (List Int) × Int × Int × (Int × (Nat → Int) × Int × Bool × Int) × List Int) ⊕ ((Bool) ⊕ ((List Int) × Int × (Int × (Nat → Int) × Int × Bool × Int) × List Int)))
  | (t0, t1, t8, t12, r28, r11) =>
    if (decide (t12 < (t0.length : Int))) = true then
      if (decide (t12 < 100)) = true then
        if (0 : Int) ≤ t12 ∧ t12 < (t0.length : Int) then
          (Fk12 ((r28.1, r28.2.1, r28.2.2.1, r28.2.2.2.1, r28.2.2.2.2), (t0.getD t12.toNat (DT.dflt (.sl (.int .u8)))))).bind fun (y5, c4) =>
            if (y5 != 0) = true then
              some (.inr (.inl false))
            else
              if (0 : Int) ≤ t12 ∧ t12 < (t0.length : Int) then
                if okBytes (r11.length + (t0.getD t12.toNat (DT.dflt (.sl (.int .u8)))).length) 1 then
                  some (.inl (t0, t1, t8, (IntKind.i64.wrap (t12 + 1)), (c4.1, c4.2.1, c4.2.2.1, c4.2.2.2.1, c4.2.2.2.2), (r11 ++ (t0.getD t12.toNat (DT.dflt (.sl (.int .u8)))))))
                else none
              else none
        else none
      else
        some (.inr (.inr (t1, t8, (r28.1, r28.2.1, r28.2.2.1, r28.2.2.2.1, r28.2.2.2.2), r11)))
    else
      some (.inr (.inr (t1, t8, (r28.1, r28.2.1, r28.2.2.1, r28.2.2.2.1, r28.2.2.2.2), r11)))

noncomputable def annk4_0 : Ann := .none
abbrev lk4_1 : Lay := ⟨[(9, .ptr 28 0 29), (11, .full 11), (13, .full 13)], [.env 1 (.c (.fz (.int .i64))), .env 8 (.c (.int .i64)), .env 14 (.c (.int .i64)), .reg 28 (.cells [.int .i64, .ints .u64 25, .int .i64, .bool, .int .i64]), .reg 11 (.row 5 .u8), .reg 13 (.row 5 .u8)], [(28, 9), (11, 11), (13, 13)]⟩
abbrev ok4_1 : List (AExit × Lay) := [(.ret, ⟨[], [.env 6 (.c (.bool))], []⟩), (.exit 2, ⟨[(11, .full 11), (13, .full 13)], [.env 8 (.c (.int .i64)), .reg 11 (.row 5 .u8), .reg 13 (.row 5 .u8)], [(11, 11), (13, 13)]⟩)]
noncomputable def stepk4_1 : (List Int) × Int × Int × (Int × (Nat → Int) × Int × Bool × Int) × List Int × List Int → Option (((List Int) × Int × Int × (Int × (Nat → Int) × Int × Bool × Int) × List Int × List Int) ⊕ ((Bool) ⊕ (Int × List Int × List Int)))
  | (t1, t8, t14, r28, r11, r13) =>
    if (decide (t14 < (t1.length : Int))) = true then
      if (decide (t14 < 20)) = true then
        if (0 : Int) ≤ t14 ∧ t14 < (t1.length : Int) then
          if (decide (((t1.getD t14.toNat 0).tmod 500) < 0)) = true then
            (Fk13 ((r28.1, r28.2.1, r28.2.2.1, r28.2.2.2.1, r28.2.2.2.2), (IntKind.i64.wrap (0 - ((t1.getD t14.toNat 0).tmod 500))))).bind fun ((y13, y14), c12) =>
              if (y14 != 0) = false then
                let x15 : Bool := ((y13.length : Int) != (IntKind.i64.wrap (0 - ((t1.getD t14.toNat 0).tmod 500))))
                if x15 = true then
                  some (.inr (.inl false))
                else
                  if okBytes (r13.length + y13.length) 1 then
                    some (.inl (t1, t8, (IntKind.i64.wrap (t14 + 1)), (c12.1, c12.2.1, c12.2.2.1, c12.2.2.2.1, c12.2.2.2.2), r11, (r13 ++ y13)))
                  else none
              else
                some (.inr (.inl false))
          else
            (Fk13 ((r28.1, r28.2.1, r28.2.2.1, r28.2.2.2.1, r28.2.2.2.2), ((t1.getD t14.toNat 0).tmod 500))).bind fun ((y17, y18), c16) =>
              if (y18 != 0) = false then
                if ((y17.length : Int) != ((t1.getD t14.toNat 0).tmod 500)) = true then
                  some (.inr (.inl false))
                else
                  if okBytes (r13.length + y17.length) 1 then
                    some (.inl (t1, t8, (IntKind.i64.wrap (t14 + 1)), (c16.1, c16.2.1, c16.2.2.1, c16.2.2.2.1, c16.2.2.2.2), r11, (r13 ++ y17)))
                  else none
              else
                some (.inr (.inl false))
        else none
      else
        some (.inr (.inr (t8, r11, r13)))
    else
      some (.inr (.inr (t8, r11, r13)))

noncomputable def annk4_1 : Ann := .none
noncomputable def Fk4 : (List (List Int)) × List Int × Int → Option (Bool)
  | (a0, a1, a2) =>
    (Fk8 ()).bind fun y1 =>
      if ((a2.tmod 2) != 0) = true then
        (Fk11 5).bind fun
          | (.inl (y2, y3)) =>
            if (!y1) = false then
              if (y3 != 0) = true then
                some false
              else
                (loopO stepk4_0 (a0, a1, 5, 0, (y2.1, y2.2.1, y2.2.2.1, y2.2.2.2.1, y2.2.2.2.2), ([] : List Int))).bind fun
                  | (.inl z7) =>
                    some z7
                  | (.inr (z8, z9, z10, z11)) =>
                    (loopO stepk4_1 (z8, z9, 0, (z10.1, z10.2.1, z10.2.2.1, z10.2.2.2.1, z10.2.2.2.2), z11, ([] : List Int))).bind fun
                      | (.inl z20) =>
                        some z20
                      | (.inr (z21, z22, z23)) =>
                        (Fk14 (z21, z22, (z23.length : Int))).bind fun (y24, y25) =>
                          (Fk14 (z21, z22, (IntKind.i64.wrap ((z23.length : Int) + 37)))).bind fun (y26, y27) =>
                            if (y25 == 0) = true then
                              if (y27 == 0) = true then
                                (Fk15 (y24, z23)).bind fun y28 =>
                                  if y28 = true then
                                    let x29 : Bool := ((y26.length : Int) == (IntKind.i64.wrap ((z23.length : Int) + 37)))
                                    if x29 = true then
                                      if (0 : Int) ≤ (z23.length : Int) ∧ (z23.length : Int) ≤ (y26.length : Int) then
                                        (Fk15 (((y26.drop 0).take ((z23.length : Int).toNat - 0)), z23)).bind fun y30 =>
                                          some y30
                                      else none
                                    else
                                      some false
                                  else
                                    some false
                              else
                                some false
                            else
                              some false
            else
              some false
          | (.inr (y31, y32)) =>
            if (!y1) = false then
              some false
            else
              some false
      else
        (Fk11 4).bind fun
          | (.inl (y33, y34)) =>
            if (!y1) = false then
              if (y34 != 0) = true then
                some false
              else
                (loopO stepk4_0 (a0, a1, 4, 0, (y33.1, y33.2.1, y33.2.2.1, y33.2.2.2.1, y33.2.2.2.2), ([] : List Int))).bind fun
                  | (.inl z36) =>
                    some z36
                  | (.inr (z37, z38, z39, z40)) =>
                    (loopO stepk4_1 (z37, z38, 0, (z39.1, z39.2.1, z39.2.2.1, z39.2.2.2.1, z39.2.2.2.2), z40, ([] : List Int))).bind fun
                      | (.inl z42) =>
                        some z42
                      | (.inr (z43, z44, z45)) =>
                        (Fk14 (z43, z44, (z45.length : Int))).bind fun (y46, y47) =>
                          (Fk14 (z43, z44, (IntKind.i64.wrap ((z45.length : Int) + 37)))).bind fun (y48, y49) =>
                            if (y47 == 0) = true then
                              if (y49 == 0) = true then
                                (Fk15 (y46, z45)).bind fun y50 =>
                                  if y50 = true then
                                    let x51 : Bool := ((y48.length : Int) == (IntKind.i64.wrap ((z45.length : Int) + 37)))
                                    if x51 = true then
                                      if (0 : Int) ≤ (z45.length : Int) ∧ (z45.length : Int) ≤ (y48.length : Int) then
                                        (Fk15 (((y48.drop 0).take ((z45.length : Int).toNat - 0)), z45)).bind fun y52 =>
                                          some y52
                                      else none
                                    else
                                      some false
                                  else
                                    some false
                              else
                                some false
                            else
                              some false
            else
              some false
          | (.inr (y53, y54)) =>
            if (!y1) = false then
              some false
            else
              some false

noncomputable def annk4 : Ann := (.seq .none (.seq .none (.seq .none (.seq .none (.seq .none (.seq .none (.seq .none (.seq (.seq .none (.seq (.cut (cutEnt lk4_0 ok4_0 (loopO stepk4_0))) .none)) (.seq .none (.seq (.seq .none (.seq (.cut (cutEnt lk4_1 ok4_1 (loopO stepk4_1))) .none)) .none))))))))))
abbrev Sk4 : FSh := ⟨[.val (.c (.fz (.sl (.int .u8)))), .ints .i64, .val (.c (.int .i64))], [.val (.c (.bool))], [.tmp 6]⟩
noncomputable def ck4 : Ctx Go.Proofs.Try.prog := ⟨ktab, ofL Ek15, ktabOk, Ek15_ok, kdep, kord⟩
theorem eqk4_0 : ∀ s : lk4_0.T, exec ktab (ofL Ek15) 144 (Code.at' [1, 1, 1, 1, 1, 1, 1, 0, 1, 0, 0] bodyk4) annk4_0 (fun e st => loopEnd (l := lk4_0) (outs := ok4_0) e st) (lk4_0.enc s) = stepk4_0 s := by
  rintro ⟨t0, t1, t8, t12, r28, r11⟩
  kernel_rfl
theorem okk4_0 : LOk Go.Proofs.Try.prog 144 (cutEnt lk4_0 ok4_0 (loopO stepk4_0)) (Code.at' [1, 1, 1, 1, 1, 1, 1, 0, 1, 0] bodyk4) := by
  have e : Code.at' [1, 1, 1, 1, 1, 1, 1, 0, 1, 0] bodyk4 = .loop (Code.at' [1, 1, 1, 1, 1, 1, 1, 0, 1, 0, 0] bodyk4) := by kernel_rfl
  rw [e]
  refine loop_ok ck4 144 rfl rfl (annOk_of_cuts ?_) eqk4_0
  intro x hx
  exact absurd hx (by show x ∉ ([] : List (List Nat × LEnt)); simp)

theorem eqk4_1 : ∀ s : lk4_1.T, exec ktab (ofL Ek15) 144 (Code.at' [1, 1, 1, 1, 1, 1, 1, 1, 1, 0, 1, 0, 0] bodyk4) annk4_1 (fun e st => loopEnd (l := lk4_1) (outs := ok4_1) e st) (lk4_1.enc s) = stepk4_1 s := by
  rintro ⟨t1, t8, t14, r28, r11, r13⟩
  kernel_rfl
theorem okk4_1 : LOk Go.Proofs.Try.prog 144 (cutEnt lk4_1 ok4_1 (loopO stepk4_1)) (Code.at' [1, 1, 1, 1, 1, 1, 1, 1, 1, 0, 1, 0] bodyk4) := by
  have e : Code.at' [1, 1, 1, 1, 1, 1, 1, 1, 1, 0, 1, 0] bodyk4 = .loop (Code.at' [1, 1, 1, 1, 1, 1, 1, 1, 1, 0, 1, 0, 0] bodyk4) := by kernel_rfl
  rw [e]
  refine loop_ok ck4 144 rfl rfl (annOk_of_cuts ?_) eqk4_1
  intro x hx
  exact absurd hx (by show x ∉ ([] : List (List Nat × LEnt)); simp)

theorem eqk4 : ∀ x : psT Sk4.ps, exec ktab (ofL Ek15) 144 bodyk4 annk4 (fin ktab Sk4) (argSt Sk4 x) = Fk4 x := by
  rintro ⟨a0, a1, a2⟩
  kernel_rfl
theorem callsk4 : CallsAs Go.Proofs.Try.prog ck4 4 Sk4 Fk4 := by
  refine fun_calls (fn := Go.Proofs.Try.f4) (c := bodyk4) (ann := annk4) ck4 (by kernel_rfl) (by kernel_rfl) (by kernel_rfl) (by decide) (annOk_of_cuts ?_) eqk4
  have hc : Ann.cuts annk4 = [([1, 1, 1, 1, 1, 1, 1, 0, 1, 0], (cutEnt lk4_0 ok4_0 (loopO stepk4_0))), ([1, 1, 1, 1, 1, 1, 1, 1, 1, 0, 1, 0], (cutEnt lk4_1 ok4_1 (loopO stepk4_1)))] := by kernel_rfl
  rw [hc]
  intro x hx
  simp only [List.mem_cons, List.not_mem_nil, or_false] at hx
  rcases hx with rfl | rfl
  · have e : Code.at' [1, 1, 1, 1, 1, 1, 1, 0, 1, 0] bodyk4 = Code.at' [1, 1, 1, 1, 1, 1, 1, 0, 1, 0] bodyk4 := by kernel_rfl
    rw [e]; exact okk4_0
  · have e : Code.at' [1, 1, 1, 1, 1, 1, 1, 1, 1, 0, 1, 0] bodyk4 = Code.at' [1, 1, 1, 1, 1, 1, 1, 1, 1, 0, 1, 0] bodyk4 := by kernel_rfl
    rw [e]; exact okk4_1

theorem entk4 : EntOk Go.Proofs.Try.prog 4 (funEnt Sk4 Fk4) := fun_ok ck4 (fn := Go.Proofs.Try.f4) (c := bodyk4) (by kernel_rfl) (by kernel_rfl) (by kernel_rfl) rfl rfl (by decide) callsk4
noncomputable def Ek4 : List (Nat × Ent) := (4, funEnt Sk4 Fk4) :: Ek15
theorem Ek4_ok : EntsOk Go.Proofs.Try.prog (ofL Ek4) := .cons entk4 Ek15_ok

/-! ### barbican/barbicanlaw03.own -/
noncomputable def bodyk16 : Code := (Go.Proofs.Try.f16.body).getD .skip
noncomputable def Fk16 : List Int → Option ((List Int × Nat))
  | a0 =>
    if okBytes ((List.replicate 0 (0 : Int)).length + a0.length) 1 then
      if okBytes (((List.replicate 0 (0 : Int)) ++ a0).length + ((List.replicate 1 (0 : Int)).set 0 77).length) 1 then
        let f1 : List Int := (((List.replicate 0 (0 : Int)) ++ a0) ++ ((List.replicate 1 (0 : Int)).set 0 77))
        if (0 : Int) ≤ (a0.length : Int) ∧ (a0.length : Int) ≤ (f1.length : Int) then
          some (f1, ((a0.length : Int).toNat - 0))
        else none
      else none
    else none

noncomputable def annk16 : Ann := .none
abbrev Sk16 : FI := ⟨none, [.ints .u8], [.rowsl 5 .u8], none, [.tmp 2]⟩
noncomputable def ck16 : Ctx Go.Proofs.Try.prog := ⟨ktab, ofL Ek4, ktabOk, Ek4_ok, kdep, kord⟩
theorem eqk16 : ∀ x : inT Sk16, exec ktab (ofL Ek4) 11 bodyk16 annk16 (finI ktab Sk16) (argStI Sk16 x) = Fk16 x := by
  intro x
  kernel_rfl
theorem callsk16 : CallsI Go.Proofs.Try.prog 16 Sk16 Fk16 := by
  refine fun_callsI (fn := Go.Proofs.Try.f16) (c := bodyk16) (ann := annk16) ck16 (by kernel_rfl) (by kernel_rfl) (by kernel_rfl) (Nat.le_of_ble_eq_true (by kernel_rfl)) (annOk_of_cuts ?_) eqk16
  intro x hx
  exact absurd hx (by show x ∉ ([] : List (List Nat × LEnt)); simp)

theorem entk16 : EntOk Go.Proofs.Try.prog 16 (funEntI Sk16 Fk16) := fun_okI (fn := Go.Proofs.Try.f16) (c := bodyk16) (by kernel_rfl) (by kernel_rfl) (by kernel_rfl) (by kernel_rfl) (by kernel_rfl) callsk16
noncomputable def Ek16 : List (Nat × Ent) := (16, funEntI Sk16 Fk16) :: Ek4
theorem Ek16_ok : EntsOk Go.Proofs.Try.prog (ofL Ek16) := .cons entk16 Ek4_ok

/-! ### barbican/keccak.Sum512 -/
noncomputable def bodyk18 : Code := (Go.Proofs.Try.f18.body).getD .skip
noncomputable def Fk18 : List Int → Option ((Nat → Int))
  | a0 =>
    (Fk31 (3, a0, 64)).bind fun y1 =>
      if (64 : Int) ≤ (y1.length : Int) then
        some (fun j => y1.getD (0 + j) 0)
      else none

noncomputable def annk18 : Ann := .none
abbrev Sk18 : FSh := ⟨[.ints .u8], [.val (.agg [.ints .u8 64])], [.cell 2 43]⟩
noncomputable def ck18 : Ctx Go.Proofs.Try.prog := ⟨ktab, ofL Ek16, ktabOk, Ek16_ok, kdep, kord⟩
theorem eqk18 : ∀ x : psT Sk18.ps, exec ktab (ofL Ek16) 7 bodyk18 annk18 (fin ktab Sk18) (argSt Sk18 x) = Fk18 x := by
  intro x
  kernel_rfl
theorem callsk18 : CallsAs Go.Proofs.Try.prog ck18 18 Sk18 Fk18 := by
  refine fun_calls (fn := Go.Proofs.Try.f18) (c := bodyk18) (ann := annk18) ck18 (by kernel_rfl) (by kernel_rfl) (by kernel_rfl) (by decide) (annOk_of_cuts ?_) eqk18
  intro x hx
  exact absurd hx (by show x ∉ ([] : List (List Nat × LEnt)); simp)

theorem entk18 : EntOk Go.Proofs.Try.prog 18 (funEnt Sk18 Fk18) := fun_ok ck18 (fn := Go.Proofs.Try.f18) (c := bodyk18) (by kernel_rfl) (by kernel_rfl) (by kernel_rfl) rfl rfl (by decide) callsk18
noncomputable def Ek18 : List (Nat × Ent) := (18, funEnt Sk18 Fk18) :: Ek16
theorem Ek18_ok : EntsOk Go.Proofs.Try.prog (ofL Ek18) := .cons entk18 Ek16_ok

/-! ### barbican/barbicanlaw03.still -/
noncomputable def bodyk19 : Code := (Go.Proofs.Try.f19.body).getD .skip
noncomputable def Fk19 : (List Int × Nat) × List Int → Option (Bool)
  | (a0, a1) =>
    (Fk15 ((a0.1.take a0.2), a1)).bind fun y1 =>
      if y1 = true then
        if (0 : Int) ≤ (IntKind.i64.wrap ((a1.length : Int) + 1)) ∧ (IntKind.i64.wrap ((a1.length : Int) + 1)) ≤ (a0.1.length : Int) then
          if (0 : Int) ≤ (a1.length : Int) ∧ (a1.length : Int) < (((IntKind.i64.wrap ((a1.length : Int) + 1)).toNat : Nat) : Int) then
            some ((a0.1.getD (a1.length : Int).toNat 0) == 77)
          else none
        else none
      else
        some false

noncomputable def annk19 : Ann := .none
abbrev Sk19 : FI := ⟨none, [.intsn .u8, .ints .u8], [.val (.c (.bool))], none, [.tmp 4]⟩
noncomputable def ck19 : Ctx Go.Proofs.Try.prog := ⟨ktab, ofL Ek18, ktabOk, Ek18_ok, kdep, kord⟩
theorem eqk19 : ∀ x : inT Sk19, exec ktab (ofL Ek18) 22 bodyk19 annk19 (finI ktab Sk19) (argStI Sk19 x) = Fk19 x := by
  rintro ⟨a0, a1⟩
  kernel_rfl
theorem callsk19 : CallsI Go.Proofs.Try.prog 19 Sk19 Fk19 := by
  refine fun_callsI (fn := Go.Proofs.Try.f19) (c := bodyk19) (ann := annk19) ck19 (by kernel_rfl) (by kernel_rfl) (by kernel_rfl) (Nat.le_of_ble_eq_true (by kernel_rfl)) (annOk_of_cuts ?_) eqk19
  intro x hx
  exact absurd hx (by show x ∉ ([] : List (List Nat × LEnt)); simp)

theorem entk19 : EntOk Go.Proofs.Try.prog 19 (funEntI Sk19 Fk19) := fun_okI (fn := Go.Proofs.Try.f19) (c := bodyk19) (by kernel_rfl) (by kernel_rfl) (by kernel_rfl) (by kernel_rfl) (by kernel_rfl) callsk19
noncomputable def Ek19 : List (Nat × Ent) := (19, funEntI Sk19 Fk19) :: Ek18
theorem Ek19_ok : EntsOk Go.Proofs.Try.prog (ofL Ek19) := .cons entk19 Ek18_ok

/-! ### barbican/barbicanref03.Kind -/
noncomputable def bodyk33 : Code := (Go.Proofs.Try.f33.body).getD .skip
noncomputable def Fk33 : Int → Option (Int × Int × Int × Bool)
  | a0 =>
    if (a0 == 1) = true then
      some (136, 6, 32, true)
    else
      if (a0 == 2) = true then
        some (104, 6, 48, true)
      else
        if (a0 == 3) = true then
          some (72, 6, 64, true)
        else
          if (a0 == 4) = true then
            some (168, 31, (-1), true)
          else
            if (a0 == 5) = true then
              some (136, 31, (-1), true)
            else
              some (0, 0, 0, false)

noncomputable def annk33 : Ann := .none
abbrev Sk33 : FSh := ⟨[.val (.c (.int .i64))], [.val (.c (.int .i64)), .val (.c (.int .u8)), .val (.c (.int .i64)), .val (.c (.bool))], [.tmp 2, .tmp 3, .tmp 4, .tmp 5]⟩
noncomputable def ck33 : Ctx Go.Proofs.Try.prog := ⟨ktab, ofL Ek19, ktabOk, Ek19_ok, kdep, kord⟩
theorem eqk33 : ∀ x : psT Sk33.ps, exec ktab (ofL Ek19) 17 bodyk33 annk33 (fin ktab Sk33) (argSt Sk33 x) = Fk33 x := by
  intro x
  kernel_rfl
theorem callsk33 : CallsAs Go.Proofs.Try.prog ck33 33 Sk33 Fk33 := by
  refine fun_calls (fn := Go.Proofs.Try.f33) (c := bodyk33) (ann := annk33) ck33 (by kernel_rfl) (by kernel_rfl) (by kernel_rfl) (by decide) (annOk_of_cuts ?_) eqk33
  intro x hx
  exact absurd hx (by show x ∉ ([] : List (List Nat × LEnt)); simp)

theorem entk33 : EntOk Go.Proofs.Try.prog 33 (funEnt Sk33 Fk33) := fun_ok ck33 (fn := Go.Proofs.Try.f33) (c := bodyk33) (by kernel_rfl) (by kernel_rfl) (by kernel_rfl) rfl rfl (by decide) callsk33
noncomputable def Ek33 : List (Nat × Ent) := (33, funEnt Sk33 Fk33) :: Ek19
theorem Ek33_ok : EntsOk Go.Proofs.Try.prog (ofL Ek33) := .cons entk33 Ek19_ok

/-! ### (*barbican/barbicanref03.Sponge).begin -/
noncomputable def bodyk35 : Code := (Go.Proofs.Try.f35.body).getD .skip
abbrev lk35_0 : Lay := ⟨[(0, .ptr 1000000 0 30), (6, .full 28)], [.env 2 (.c (.int .i64)), .reg 1000000 (.cells [.int .i64, .fz (.int .u8), .bool, .int .i64, .ints .u64 25, .int .i64]), .reg 28 (.row 5 .u8)], [(1000000, 0), (28, 6)]⟩
abbrev ok35_0 : List (AExit × Lay) := [(.exit 0, ⟨[(0, .ptr 1000000 0 30), (6, .full 28)], [.env 2 (.c (.int .i64)), .reg 1000000 (.cells [.int .i64, .fz (.int .u8), .bool, .int .i64, .ints .u64 25, .int .i64]), .reg 28 (.row 5 .u8)], [(1000000, 0), (28, 6)]⟩)]
noncomputable def stepk35_0 : Int × (Int × (List Int) × Bool × Int × (Nat → Int) × Int) × List Int → Option ((Int × (Int × (List Int) × Bool × Int × (Nat → Int) × Int) × List Int) ⊕ ((Int × (Int × (List Int) × Bool × Int × (Nat → Int) × Int) × List Int)))
  | (t2, r1000000, r28) =>
    if t2 ≠ 0 then
      if (((r28.length : Int).tmod t2) != 0) = true then
        if okBytes (r28.length + ((List.replicate 1 (0 : Int)).set 0 0).length) 1 then
          some (.inl (t2, (r1000000.1, r1000000.2.1, r1000000.2.2.1, r1000000.2.2.2.1, r1000000.2.2.2.2.1, r1000000.2.2.2.2.2), (r28 ++ ((List.replicate 1 (0 : Int)).set 0 0))))
        else none
      else
        some (.inr (t2, (r1000000.1, r1000000.2.1, r1000000.2.2.1, r1000000.2.2.2.1, r1000000.2.2.2.2.1, r1000000.2.2.2.2.2), r28))
    else none

noncomputable def annk35_0 : Ann := .none
abbrev lk35_2 : Lay := ⟨[(0, .ptr 1000000 0 30), (6, .full 28)], [.env 2 (.c (.int .i64)), .env 7 (.c (.int .i64)), .env 8 (.c (.int .i64)), .reg 1000000 (.cells [.int .i64, .fz (.int .u8), .bool, .int .i64, .ints .u64 25, .int .i64]), .reg 28 (.row 5 .u8)], [(1000000, 0), (28, 6)]⟩
abbrev ok35_2 : List (AExit × Lay) := [(.exit 4, ⟨[(0, .ptr 1000000 0 30), (6, .full 28)], [.env 2 (.c (.int .i64)), .env 7 (.c (.int .i64)), .reg 1000000 (.cells [.int .i64, .fz (.int .u8), .bool, .int .i64, .ints .u64 25, .int .i64]), .reg 28 (.row 5 .u8)], [(1000000, 0), (28, 6)]⟩)]
noncomputable def stepk35_2 : Int × Int × Int × (Int × (List Int) × Bool × Int × (Nat → Int) × Int) × List Int → Option ((Int × Int × Int × (Int × (List Int) × Bool × Int × (Nat → Int) × Int) × List Int) ⊕ ((Int × Int × (Int × (List Int) × Bool × Int × (Nat → Int) × Int) × List Int)))
  | (t2, t7, t8, r1000000, r28) =>
    if (decide (t8 < t2)) = true then
      if (0 : Int) ≤ (IntKind.i64.wrap (t8.tdiv 8)) ∧ (IntKind.i64.wrap (t8.tdiv 8)) < ((25 : Int) : Int) then
        if (0 : Int) ≤ (IntKind.i64.wrap (t7 + t8)) ∧ (IntKind.i64.wrap (t7 + t8)) < (r28.length : Int) then
          let x10 : Int := (IntKind.u64.wrap (r28.getD (IntKind.i64.wrap (t7 + t8)).toNat 0))
          if 0 ≤ (IntKind.u64.wrap (IntKind.i64.wrap ((t8.tmod 8) * 8))) then
            let x11 : Int := (shlI .u64 x10 (IntKind.u64.wrap (IntKind.i64.wrap ((t8.tmod 8) * 8))))
            let x12 : Int := (bitsXor .u64 (r1000000.2.2.2.2.1 (IntKind.i64.wrap (t8.tdiv 8)).toNat) x11)
            if (0 : Int) ≤ (IntKind.i64.wrap (t8.tdiv 8)) ∧ (IntKind.i64.wrap (t8.tdiv 8)) < ((25 : Int) : Int) then
              let f13 : Nat → Int := (upd r1000000.2.2.2.2.1 (IntKind.i64.wrap (t8.tdiv 8)).toNat x12)
              some (.inl (t2, t7, (IntKind.i64.wrap (t8 + 1)), (r1000000.1, r1000000.2.1, r1000000.2.2.1, r1000000.2.2.2.1, f13, r1000000.2.2.2.2.2), r28))
            else none
          else none
        else none
      else none
    else
      some (.inr (t2, t7, (r1000000.1, r1000000.2.1, r1000000.2.2.1, r1000000.2.2.2.1, r1000000.2.2.2.2.1, r1000000.2.2.2.2.2), r28))

noncomputable def annk35_2 : Ann := .none
abbrev lk35_1 : Lay := ⟨[(0, .ptr 1000000 0 30), (6, .full 28)], [.env 2 (.c (.int .i64)), .env 7 (.c (.int .i64)), .reg 1000000 (.cells [.int .i64, .fz (.int .u8), .bool, .int .i64, .ints .u64 25, .int .i64]), .reg 28 (.row 5 .u8)], [(1000000, 0), (28, 6)]⟩
abbrev ok35_1 : List (AExit × Lay) := [(.exit 2, ⟨[(0, .ptr 1000000 0 30)], [.reg 1000000 (.cells [.int .i64, .fz (.int .u8), .bool, .int .i64, .ints .u64 25, .int .i64])], [(1000000, 0)]⟩)]
noncomputable def stepk35_1 : Int × Int × (Int × (List Int) × Bool × Int × (Nat → Int) × Int) × List Int → Option ((Int × Int × (Int × (List Int) × Bool × Int × (Nat → Int) × Int) × List Int) ⊕ ((Int × (List Int) × Bool × Int × (Nat → Int) × Int)))
  | (t2, t7, r1000000, r28) =>
    if (decide (t7 < (r28.length : Int))) = true then
      (loopO stepk35_2 (t2, t7, 0, (r1000000.1, r1000000.2.1, r1000000.2.2.1, r1000000.2.2.2.1, r1000000.2.2.2.2.1, r1000000.2.2.2.2.2), r28)).bind fun (z14, z15, z16, z17) =>
        (Fk10 z16.2.2.2.2.1).bind fun y18 =>
          some (.inl (z14, (IntKind.i64.wrap (z15 + z14)), (z16.1, z16.2.1, z16.2.2.1, z16.2.2.2.1, y18, z16.2.2.2.2.2), z17))
    else
      some (.inr (r1000000.1, r1000000.2.1, r1000000.2.2.1, r1000000.2.2.2.1, r1000000.2.2.2.2.1, r1000000.2.2.2.2.2))

noncomputable def annk35_1 : Ann := (.seq .none (.seq (.seq (.seq (.seq .none (.seq (.cut (cutEnt lk35_2 ok35_2 (loopO stepk35_2))) .none)) .none) .none) .none))
noncomputable def Fk35 : (Int × (List Int) × Bool × Int × (Nat → Int) × Int) × Unit → Option ((Unit) × (Int × Unit × Bool × Int × (Nat → Int) × Int))
  | (io, _) =>
    (Fk33 io.1).bind fun (y1, y2, y3, y4) =>
      if okBytes (([] : List Int).length + io.2.1.length) 1 then
        if okBytes ((([] : List Int) ++ io.2.1).length + ((List.replicate 1 (0 : Int)).set 0 y2).length) 1 then
          let f5 : List Int := ((([] : List Int) ++ io.2.1) ++ ((List.replicate 1 (0 : Int)).set 0 y2))
          (loopO stepk35_0 (y1, (io.1, io.2.1, io.2.2.1, io.2.2.2.1, io.2.2.2.2.1, io.2.2.2.2.2), f5)).bind fun (z6, z7, z8) =>
            if (0 : Int) ≤ (IntKind.i64.wrap ((z8.length : Int) - 1)) ∧ (IntKind.i64.wrap ((z8.length : Int) - 1)) < (z8.length : Int) then
              let x9 : Int := (bitsXor .u8 (z8.getD (IntKind.i64.wrap ((z8.length : Int) - 1)).toNat 0) 128)
              if (0 : Int) ≤ (IntKind.i64.wrap ((z8.length : Int) - 1)) ∧ (IntKind.i64.wrap ((z8.length : Int) - 1)) < (z8.length : Int) then
                (loopO stepk35_1 (z6, 0, (z7.1, z7.2.1, z7.2.2.1, z7.2.2.2.1, (fun _ => 0), z7.2.2.2.2.2), (z8.set (IntKind.i64.wrap ((z8.length : Int) - 1)).toNat x9))).bind fun z19 =>
                  some ((), (z19.1, (), z19.2.2.1, z19.2.2.2.1, z19.2.2.2.2.1, 0))
              else none
            else none
        else none
      else none

noncomputable def annk35 : Ann := (.seq .none (.seq .none (.seq .none (.seq .none (.seq (.seq (.cut (cutEnt lk35_0 ok35_0 (loopO stepk35_0))) .none) (.seq .none (.seq .none (.seq (.seq .none (.seq (.cut (cutEnt lk35_1 ok35_1 (loopO stepk35_1))) .none)) .none))))))))
abbrev Sk35 : FI := ⟨(some [.int .i64, .fz (.int .u8), .bool, .int .i64, .ints .u64 25, .int .i64]), [], [], none, []⟩
noncomputable def ck35 : Ctx Go.Proofs.Try.prog := ⟨ktab, ofL Ek33, ktabOk, Ek33_ok, kdep, kord⟩
theorem eqk35_0 : ∀ s : lk35_0.T, exec ktab (ofL Ek33) 102 (Code.at' [1, 1, 1, 1, 0, 0, 0] bodyk35) annk35_0 (fun e st => loopEnd (l := lk35_0) (outs := ok35_0) e st) (lk35_0.enc s) = stepk35_0 s := by
  rintro ⟨t2, r1000000, r28⟩
  kernel_rfl
theorem okk35_0 : LOk Go.Proofs.Try.prog 102 (cutEnt lk35_0 ok35_0 (loopO stepk35_0)) (Code.at' [1, 1, 1, 1, 0, 0] bodyk35) := by
  have e : Code.at' [1, 1, 1, 1, 0, 0] bodyk35 = .loop (Code.at' [1, 1, 1, 1, 0, 0, 0] bodyk35) := by kernel_rfl
  rw [e]
  refine loop_ok ck35 102 rfl rfl (annOk_of_cuts ?_) eqk35_0
  intro x hx
  exact absurd hx (by show x ∉ ([] : List (List Nat × LEnt)); simp)

theorem eqk35_2 : ∀ s : lk35_2.T, exec ktab (ofL Ek33) 102 (Code.at' [1, 1, 1, 1, 1, 1, 1, 0, 1, 0, 0, 1, 0, 0, 0, 1, 0, 0] bodyk35) annk35_2 (fun e st => loopEnd (l := lk35_2) (outs := ok35_2) e st) (lk35_2.enc s) = stepk35_2 s := by
  rintro ⟨t2, t7, t8, r1000000, r28⟩
  kernel_rfl
theorem okk35_2 : LOk Go.Proofs.Try.prog 102 (cutEnt lk35_2 ok35_2 (loopO stepk35_2)) (Code.at' [1, 1, 1, 1, 1, 1, 1, 0, 1, 0, 0, 1, 0, 0, 0, 1, 0] bodyk35) := by
  have e : Code.at' [1, 1, 1, 1, 1, 1, 1, 0, 1, 0, 0, 1, 0, 0, 0, 1, 0] bodyk35 = .loop (Code.at' [1, 1, 1, 1, 1, 1, 1, 0, 1, 0, 0, 1, 0, 0, 0, 1, 0, 0] bodyk35) := by kernel_rfl
  rw [e]
  refine loop_ok ck35 102 rfl rfl (annOk_of_cuts ?_) eqk35_2
  intro x hx
  exact absurd hx (by show x ∉ ([] : List (List Nat × LEnt)); simp)

theorem eqk35_1 : ∀ s : lk35_1.T, exec ktab (ofL Ek33) 102 (Code.at' [1, 1, 1, 1, 1, 1, 1, 0, 1, 0, 0] bodyk35) annk35_1 (fun e st => loopEnd (l := lk35_1) (outs := ok35_1) e st) (lk35_1.enc s) = stepk35_1 s := by
  rintro ⟨t2, t7, r1000000, r28⟩
  kernel_rfl
theorem okk35_1 : LOk Go.Proofs.Try.prog 102 (cutEnt lk35_1 ok35_1 (loopO stepk35_1)) (Code.at' [1, 1, 1, 1, 1, 1, 1, 0, 1, 0] bodyk35) := by
  have e : Code.at' [1, 1, 1, 1, 1, 1, 1, 0, 1, 0] bodyk35 = .loop (Code.at' [1, 1, 1, 1, 1, 1, 1, 0, 1, 0, 0] bodyk35) := by kernel_rfl
  rw [e]
  refine loop_ok ck35 102 rfl rfl (annOk_of_cuts ?_) eqk35_1
  have hc : Ann.cuts annk35_1 = [([1, 0, 0, 0, 1, 0], (cutEnt lk35_2 ok35_2 (loopO stepk35_2)))] := by kernel_rfl
  rw [hc]
  intro x hx
  simp only [List.mem_cons, List.not_mem_nil, or_false] at hx
  rcases hx with rfl
  · have e : Code.at' [1, 0, 0, 0, 1, 0] (Code.at' [1, 1, 1, 1, 1, 1, 1, 0, 1, 0, 0] bodyk35) = Code.at' [1, 1, 1, 1, 1, 1, 1, 0, 1, 0, 0, 1, 0, 0, 0, 1, 0] bodyk35 := by kernel_rfl
    rw [e]; exact okk35_2

theorem eqk35 : ∀ x : inT Sk35, exec ktab (ofL Ek33) 102 bodyk35 annk35 (finI ktab Sk35) (argStI Sk35 x) = Fk35 x := by
  rintro ⟨io, _⟩
  kernel_rfl
theorem callsk35 : CallsI Go.Proofs.Try.prog 35 Sk35 Fk35 := by
  refine fun_callsI (fn := Go.Proofs.Try.f35) (c := bodyk35) (ann := annk35) ck35 (by kernel_rfl) (by kernel_rfl) (by kernel_rfl) (Nat.le_of_ble_eq_true (by kernel_rfl)) (annOk_of_cuts ?_) eqk35
  have hc : Ann.cuts annk35 = [([1, 1, 1, 1, 0, 0], (cutEnt lk35_0 ok35_0 (loopO stepk35_0))), ([1, 1, 1, 1, 1, 1, 1, 0, 1, 0], (cutEnt lk35_1 ok35_1 (loopO stepk35_1)))] := by kernel_rfl
  rw [hc]
  intro x hx
  simp only [List.mem_cons, List.not_mem_nil, or_false] at hx
  rcases hx with rfl | rfl
  · have e : Code.at' [1, 1, 1, 1, 0, 0] bodyk35 = Code.at' [1, 1, 1, 1, 0, 0] bodyk35 := by kernel_rfl
    rw [e]; exact okk35_0
  · have e : Code.at' [1, 1, 1, 1, 1, 1, 1, 0, 1, 0] bodyk35 = Code.at' [1, 1, 1, 1, 1, 1, 1, 0, 1, 0] bodyk35 := by kernel_rfl
    rw [e]; exact okk35_1

theorem entk35 : EntOk Go.Proofs.Try.prog 35 (funEntI Sk35 Fk35) := fun_okI (fn := Go.Proofs.Try.f35) (c := bodyk35) (by kernel_rfl) (by kernel_rfl) (by kernel_rfl) (by kernel_rfl) (by kernel_rfl) callsk35
noncomputable def Ek35 : List (Nat × Ent) := (35, funEntI Sk35 Fk35) :: Ek33
theorem Ek35_ok : EntsOk Go.Proofs.Try.prog (ofL Ek35) := .cons entk35 Ek33_ok

/-! ### barbican/barbicanref03.byteOf -/
noncomputable def bodyk36 : Code := (Go.Proofs.Try.f36.body).getD .skip
noncomputable def Fk36 : (Nat → Int) × Int → Option (Int)
  | (a0, a1) =>
    if (0 : Int) ≤ (IntKind.i64.wrap (a1.tdiv 8)) ∧ (IntKind.i64.wrap (a1.tdiv 8)) < ((25 : Int) : Int) then
      if 0 ≤ (IntKind.u64.wrap (IntKind.i64.wrap ((a1.tmod 8) * 8))) then
        let x1 : Int := (shrI .u64 (a0 (IntKind.i64.wrap (a1.tdiv 8)).toNat) (IntKind.u64.wrap (IntKind.i64.wrap ((a1.tmod 8) * 8))))
        some (IntKind.u8.wrap x1)
      else none
    else none

noncomputable def annk36 : Ann := .none
abbrev Sk36 : FSh := ⟨[.val (.agg [.ints .u64 25]), .val (.c (.int .i64))], [.val (.c (.int .u8))], [.tmp 4]⟩
noncomputable def ck36 : Ctx Go.Proofs.Try.prog := ⟨ktab, ofL Ek35, ktabOk, Ek35_ok, kdep, kord⟩
theorem eqk36 : ∀ x : psT Sk36.ps, exec ktab (ofL Ek35) 15 bodyk36 annk36 (fin ktab Sk36) (argSt Sk36 x) = Fk36 x := by
  rintro ⟨a0, a1⟩
  kernel_rfl
theorem callsk36 : CallsAs Go.Proofs.Try.prog ck36 36 Sk36 Fk36 := by
  refine fun_calls (fn := Go.Proofs.Try.f36) (c := bodyk36) (ann := annk36) ck36 (by kernel_rfl) (by kernel_rfl) (by kernel_rfl) (by decide) (annOk_of_cuts ?_) eqk36
  intro x hx
  exact absurd hx (by show x ∉ ([] : List (List Nat × LEnt)); simp)

theorem entk36 : EntOk Go.Proofs.Try.prog 36 (funEnt Sk36 Fk36) := fun_ok ck36 (fn := Go.Proofs.Try.f36) (c := bodyk36) (by kernel_rfl) (by kernel_rfl) (by kernel_rfl) rfl rfl (by decide) callsk36
noncomputable def Ek36 : List (Nat × Ent) := (36, funEnt Sk36 Fk36) :: Ek35
theorem Ek36_ok : EntsOk Go.Proofs.Try.prog (ofL Ek36) := .cons entk36 Ek35_ok

/-! ### (*barbican/barbicanref03.Sponge).Read -/
noncomputable def bodyk32 : Code := (Go.Proofs.Try.f32.body).getD .skip
abbrev lk32_1 : Lay := ⟨[(0, .ptr 1000000 0 30), (9, .full 9)], [.env 1 (.c (.int .i64)), .env 5 (.c (.int .i64)), .env 10 (.c (.int .i64)), .reg 1000000 (.cells [.int .i64, .junk 1, .bool, .int .i64, .ints .u64 25, .int .i64]), .reg 9 (.row 5 .u8)], [(1000000, 0), (9, 9)]⟩
abbrev ok32_1 : List (AExit × Lay) := [(.exit 2, ⟨[(0, .ptr 1000000 0 30), (9, .full 9)], [.env 1 (.c (.int .i64)), .env 5 (.c (.int .i64)), .env 10 (.c (.int .i64)), .reg 1000000 (.cells [.int .i64, .junk 1, .bool, .int .i64, .ints .u64 25, .int .i64]), .reg 9 (.row 5 .u8)], [(1000000, 0), (9, 9)]⟩)]
noncomputable def stepk32_1 : Int × Int × Int × (Int × Unit × Bool × Int × (Nat → Int) × Int) × List Int → Option ((Int × Int × Int × (Int × Unit × Bool × Int × (Nat → Int) × Int) × List Int) ⊕ ((Int × Int × Int × (Int × Unit × Bool × Int × (Nat → Int) × Int) × List Int)))
  | (t1, t5, t10, r1000000, r9) =>
    if t5 ≠ 0 then
      let x6 : Bool := (decide (r1000000.2.2.2.2.2 < (IntKind.i64.wrap (r1000000.2.2.2.1.tdiv t5))))
      if x6 = true then
        (Fk10 r1000000.2.2.2.2.1).bind fun y7 =>
          some (.inl (t1, t5, t10, (r1000000.1, (), r1000000.2.2.1, r1000000.2.2.2.1, y7, (IntKind.i64.wrap (r1000000.2.2.2.2.2 + 1))), r9))
      else
        some (.inr (t1, t5, t10, (r1000000.1, (), r1000000.2.2.1, r1000000.2.2.2.1, r1000000.2.2.2.2.1, r1000000.2.2.2.2.2), r9))
    else none

noncomputable def annk32_1 : Ann := .none
abbrev lk32_0 : Lay := ⟨[(0, .ptr 1000000 0 30), (9, .full 9)], [.env 1 (.c (.int .i64)), .env 5 (.c (.int .i64)), .env 10 (.c (.int .i64)), .reg 1000000 (.cells [.int .i64, .junk 1, .bool, .int .i64, .ints .u64 25, .int .i64]), .reg 9 (.row 5 .u8)], [(1000000, 0), (9, 9)]⟩
abbrev ok32_0 : List (AExit × Lay) := [(.exit 0, ⟨[(9, .full 9)], [.reg 9 (.row 5 .u8), .reg 1000000 (.cells [.int .i64, .junk 1, .bool, .int .i64, .ints .u64 25, .int .i64])], [(9, 9)]⟩)]
noncomputable def stepk32_0 : Int × Int × Int × (Int × Unit × Bool × Int × (Nat → Int) × Int) × List Int → Option ((Int × Int × Int × (Int × Unit × Bool × Int × (Nat → Int) × Int) × List Int) ⊕ ((List Int × (Int × Unit × Bool × Int × (Nat → Int) × Int))))
  | (t1, t5, t10, r1000000, r9) =>
    if (decide (t10 < t1)) = true then
      (loopO stepk32_1 (t1, t5, t10, (r1000000.1, (), r1000000.2.2.1, r1000000.2.2.2.1, r1000000.2.2.2.2.1, r1000000.2.2.2.2.2), r9)).bind fun (z8, z9, z10, z11, z12) =>
        if z9 ≠ 0 then
          (Fk36 (z11.2.2.2.2.1, (z11.2.2.2.1.tmod z9))).bind fun y13 =>
            if okBytes (z12.length + ((List.replicate 1 (0 : Int)).set 0 y13).length) 1 then
              some (.inl (z8, z9, (IntKind.i64.wrap (z10 + 1)), (z11.1, (), z11.2.2.1, (IntKind.i64.wrap (z11.2.2.2.1 + 1)), z11.2.2.2.2.1, z11.2.2.2.2.2), (z12 ++ ((List.replicate 1 (0 : Int)).set 0 y13))))
            else none
        else none
    else
      some (.inr (r9, (r1000000.1, (), r1000000.2.2.1, r1000000.2.2.2.1, r1000000.2.2.2.2.1, r1000000.2.2.2.2.2)))

noncomputable def annk32_0 : Ann := (.seq .none (.seq (.seq (.seq (.seq (.cut (cutEnt lk32_1 ok32_1 (loopO stepk32_1))) .none) .none) .none) .none))
noncomputable def Fk32 : (Int × (List Int) × Unit × Int × (Nat → Int) × Int) × Int → Option ((List Int) × (Int × Unit × Bool × Int × (Nat → Int) × Int))
  | (io, a1) =>
    (Fk33 io.1).bind fun (y1, y2, y3, y4) =>
      (Fk35 ((io.1, io.2.1, false, io.2.2.2.1, io.2.2.2.2.1, io.2.2.2.2.2), ())).bind fun (_, c5) =>
        (loopO stepk32_0 (a1, y1, 0, (c5.1, (), true, c5.2.2.2.1, c5.2.2.2.2.1, c5.2.2.2.2.2), ([] : List Int))).bind fun (z14, z15) =>
          some (z14, (z15.1, (), z15.2.2.1, z15.2.2.2.1, z15.2.2.2.2.1, z15.2.2.2.2.2))

noncomputable def annk32 : Ann := (.seq .none (.seq .none (.seq .none (.seq .none (.seq .none (.seq (.seq .none (.seq (.cut (cutEnt lk32_0 ok32_0 (loopO stepk32_0))) .none)) .none))))))
abbrev Sk32 : FI := ⟨(some [.int .i64, .fz (.int .u8), .boolc false, .int .i64, .ints .u64 25, .int .i64]), [.val (.c (.int .i64))], [.row 5 .u8], none, [.tmp 4]⟩
noncomputable def ck32 : Ctx Go.Proofs.Try.prog := ⟨ktab, ofL Ek36, ktabOk, Ek36_ok, kdep, kord⟩
theorem eqk32_1 : ∀ s : lk32_1.T, exec ktab (ofL Ek36) 84 (Code.at' [1, 1, 1, 1, 1, 0, 1, 0, 0, 1, 0, 0, 0, 0, 0] bodyk32) annk32_1 (fun e st => loopEnd (l := lk32_1) (outs := ok32_1) e st) (lk32_1.enc s) = stepk32_1 s := by
  rintro ⟨t1, t5, t10, r1000000, r9⟩
  kernel_rfl
theorem okk32_1 : LOk Go.Proofs.Try.prog 84 (cutEnt lk32_1 ok32_1 (loopO stepk32_1)) (Code.at' [1, 1, 1, 1, 1, 0, 1, 0, 0, 1, 0, 0, 0, 0] bodyk32) := by
  have e : Code.at' [1, 1, 1, 1, 1, 0, 1, 0, 0, 1, 0, 0, 0, 0] bodyk32 = .loop (Code.at' [1, 1, 1, 1, 1, 0, 1, 0, 0, 1, 0, 0, 0, 0, 0] bodyk32) := by kernel_rfl
  rw [e]
  refine loop_ok ck32 84 rfl rfl (annOk_of_cuts ?_) eqk32_1
  intro x hx
  exact absurd hx (by show x ∉ ([] : List (List Nat × LEnt)); simp)

theorem eqk32_0 : ∀ s : lk32_0.T, exec ktab (ofL Ek36) 84 (Code.at' [1, 1, 1, 1, 1, 0, 1, 0, 0] bodyk32) annk32_0 (fun e st => loopEnd (l := lk32_0) (outs := ok32_0) e st) (lk32_0.enc s) = stepk32_0 s := by
  rintro ⟨t1, t5, t10, r1000000, r9⟩
  kernel_rfl
theorem okk32_0 : LOk Go.Proofs.Try.prog 84 (cutEnt lk32_0 ok32_0 (loopO stepk32_0)) (Code.at' [1, 1, 1, 1, 1, 0, 1, 0] bodyk32) := by
  have e : Code.at' [1, 1, 1, 1, 1, 0, 1, 0] bodyk32 = .loop (Code.at' [1, 1, 1, 1, 1, 0, 1, 0, 0] bodyk32) := by kernel_rfl
  rw [e]
  refine loop_ok ck32 84 rfl rfl (annOk_of_cuts ?_) eqk32_0
  have hc : Ann.cuts annk32_0 = [([1, 0, 0, 0, 0], (cutEnt lk32_1 ok32_1 (loopO stepk32_1)))] := by kernel_rfl
  rw [hc]
  intro x hx
  simp only [List.mem_cons, List.not_mem_nil, or_false] at hx
  rcases hx with rfl
  · have e : Code.at' [1, 0, 0, 0, 0] (Code.at' [1, 1, 1, 1, 1, 0, 1, 0, 0] bodyk32) = Code.at' [1, 1, 1, 1, 1, 0, 1, 0, 0, 1, 0, 0, 0, 0] bodyk32 := by kernel_rfl
    rw [e]; exact okk32_1

theorem eqk32 : ∀ x : inT Sk32, exec ktab (ofL Ek36) 84 bodyk32 annk32 (finI ktab Sk32) (argStI Sk32 x) = Fk32 x := by
  rintro ⟨io, a1⟩
  kernel_rfl
theorem callsk32 : CallsI Go.Proofs.Try.prog 32 Sk32 Fk32 := by
  refine fun_callsI (fn := Go.Proofs.Try.f32) (c := bodyk32) (ann := annk32) ck32 (by kernel_rfl) (by kernel_rfl) (by kernel_rfl) (Nat.le_of_ble_eq_true (by kernel_rfl)) (annOk_of_cuts ?_) eqk32
  have hc : Ann.cuts annk32 = [([1, 1, 1, 1, 1, 0, 1, 0], (cutEnt lk32_0 ok32_0 (loopO stepk32_0)))] := by kernel_rfl
  rw [hc]
  intro x hx
  simp only [List.mem_cons, List.not_mem_nil, or_false] at hx
  rcases hx with rfl
  · have e : Code.at' [1, 1, 1, 1, 1, 0, 1, 0] bodyk32 = Code.at' [1, 1, 1, 1, 1, 0, 1, 0] bodyk32 := by kernel_rfl
    rw [e]; exact okk32_0

theorem entk32 : EntOk Go.Proofs.Try.prog 32 (funEntI Sk32 Fk32) := fun_okI (fn := Go.Proofs.Try.f32) (c := bodyk32) (by kernel_rfl) (by kernel_rfl) (by kernel_rfl) (by kernel_rfl) (by kernel_rfl) callsk32
noncomputable def Ek32 : List (Nat × Ent) := (32, funEntI Sk32 Fk32) :: Ek36
theorem Ek32_ok : EntsOk Go.Proofs.Try.prog (ofL Ek32) := .cons entk32 Ek36_ok

/-! ### barbican/barbicanref03.All -/
noncomputable def bodyk20 : Code := (Go.Proofs.Try.f20.body).getD .skip
noncomputable def Fk20 : Int × List Int × Int → Option (List Int)
  | (a0, a1, a2) =>
    (Fk32 ((a0, a1, (), 0, (fun _ => 0), 0), a2)).bind fun (y2, c1) =>
      some y2

noncomputable def annk20 : Ann := .none
abbrev Sk20 : FSh := ⟨[.val (.c (.int .i64)), .ints .u8, .val (.c (.int .i64))], [.row 5 .u8], [.tmp 6]⟩
noncomputable def ck20 : Ctx Go.Proofs.Try.prog := ⟨ktab, ofL Ek32, ktabOk, Ek32_ok, kdep, kord⟩
theorem eqk20 : ∀ x : psT Sk20.ps, exec ktab (ofL Ek32) 15 bodyk20 annk20 (fin ktab Sk20) (argSt Sk20 x) = Fk20 x := by
  rintro ⟨a0, a1, a2⟩
  kernel_rfl
theorem callsk20 : CallsAs Go.Proofs.Try.prog ck20 20 Sk20 Fk20 := by
  refine fun_calls (fn := Go.Proofs.Try.f20) (c := bodyk20) (ann := annk20) ck20 (by kernel_rfl) (by kernel_rfl) (by kernel_rfl) (by decide) (annOk_of_cuts ?_) eqk20
  intro x hx
  exact absurd hx (by show x ∉ ([] : List (List Nat × LEnt)); simp)

theorem entk20 : EntOk Go.Proofs.Try.prog 20 (funEnt Sk20 Fk20) := fun_ok ck20 (fn := Go.Proofs.Try.f20) (c := bodyk20) (by kernel_rfl) (by kernel_rfl) (by kernel_rfl) rfl rfl (by decide) callsk20
noncomputable def Ek20 : List (Nat × Ent) := (20, funEnt Sk20 Fk20) :: Ek32
theorem Ek20_ok : EntsOk Go.Proofs.Try.prog (ofL Ek20) := .cons entk20 Ek32_ok

/-! ### barbican/barbicanlaw03.KecSums -/
noncomputable def bodyk5 : Code := (Go.Proofs.Try.f5.body).getD .skip
noncomputable def Fk5 : List Int × Int × Int → Option (Bool)
  | (a0, a1, a2) =>
    (Fk8 ()).bind fun y1 =>
      (Fk16 a0).bind fun y2 =>
        (Fk17 ((y2.1.drop 0).take y2.2)).bind fun y3 =>
          (Fk18 ((y2.1.drop 0).take y2.2)).bind fun y4 =>
            (Fk14 (a1, ((y2.1.drop 0).take y2.2), a2)).bind fun (y5, y6) =>
              (Fk19 ((y2.1, y2.2), a0)).bind fun y7 =>
                (Fk20 (1, a0, 32)).bind fun y8 =>
                  (Fk15 (((List.range 32).map (fun j => y3 (0 + j))), y8)).bind fun y9 =>
                    (Fk20 (3, a0, 64)).bind fun y10 =>
                      (Fk15 (((List.range 64).map (fun j => y4 (0 + j))), y10)).bind fun y11 =>
                        if (!y1) = false then
                          if (!y7) = false then
                            if (!y9) = false then
                              if (!y11) = true then
                                some false
                              else
                                if (a1 != 4) = true then
                                  if (a1 != 5) = true then
                                    if ((y5.length : Int) == 0) = true then
                                      some (y6 == 31)
                                    else
                                      some false
                                  else
                                    if (decide (a2 < 0)) = false then
                                      if (decide (a2 > 65536)) = true then
                                        if ((y5.length : Int) == 0) = true then
                                          some (y6 == 1)
                                        else
                                          some false
                                      else
                                        if (y6 == 0) = true then
                                          (Fk20 (a1, a0, a2)).bind fun y12 =>
                                            (Fk15 (y5, y12)).bind fun y13 =>
                                              some y13
                                        else
                                          some false
                                    else
                                      if ((y5.length : Int) == 0) = true then
                                        some (y6 == 1)
                                      else
                                        some false
                                else
                                  if (decide (a2 < 0)) = false then
                                    if (decide (a2 > 65536)) = true then
                                      if ((y5.length : Int) == 0) = true then
                                        some (y6 == 1)
                                      else
                                        some false
                                    else
                                      if (y6 == 0) = true then
                                        (Fk20 (a1, a0, a2)).bind fun y14 =>
                                          (Fk15 (y5, y14)).bind fun y15 =>
                                            some y15
                                      else
                                        some false
                                  else
                                    if ((y5.length : Int) == 0) = true then
                                      some (y6 == 1)
                                    else
                                      some false
                            else
                              some false
                          else
                            some false
                        else
                          some false

noncomputable def annk5 : Ann := .none
abbrev Sk5 : FSh := ⟨[.ints .u8, .val (.c (.int .i64)), .val (.c (.int .i64))], [.val (.c (.bool))], [.tmp 6]⟩
noncomputable def ck5 : Ctx Go.Proofs.Try.prog := ⟨ktab, ofL Ek20, ktabOk, Ek20_ok, kdep, kord⟩
theorem eqk5 : ∀ x : psT Sk5.ps, exec ktab (ofL Ek20) 91 bodyk5 annk5 (fin ktab Sk5) (argSt Sk5 x) = Fk5 x := by
  rintro ⟨a0, a1, a2⟩
  kernel_rfl
theorem callsk5 : CallsAs Go.Proofs.Try.prog ck5 5 Sk5 Fk5 := by
  refine fun_calls (fn := Go.Proofs.Try.f5) (c := bodyk5) (ann := annk5) ck5 (by kernel_rfl) (by kernel_rfl) (by kernel_rfl) (by decide) (annOk_of_cuts ?_) eqk5
  intro x hx
  exact absurd hx (by show x ∉ ([] : List (List Nat × LEnt)); simp)

theorem entk5 : EntOk Go.Proofs.Try.prog 5 (funEnt Sk5 Fk5) := fun_ok ck5 (fn := Go.Proofs.Try.f5) (c := bodyk5) (by kernel_rfl) (by kernel_rfl) (by kernel_rfl) rfl rfl (by decide) callsk5
noncomputable def Ek5 : List (Nat × Ent) := (5, funEnt Sk5 Fk5) :: Ek20
theorem Ek5_ok : EntsOk Go.Proofs.Try.prog (ofL Ek5) := .cons entk5 Ek20_ok

/-! ### (*barbican/keccak.Sponge).Write -/
noncomputable def bodyk12n : Code := (Go.Proofs.Try.f12.body).getD .skip
noncomputable def Fk12n : Unit × List Int → Option (Int)
  | (a0, a1) =>
    some 1

noncomputable def annk12n : Ann := .none
abbrev Sk12n : FI := ⟨none, [.val (.c (.nilp)), .ints .u8], [.val (.c (.int .i64))], none, [.tmp 4]⟩
noncomputable def ck12n : Ctx Go.Proofs.Try.prog := ⟨ktab, ofL Ek5, ktabOk, Ek5_ok, kdep, kord⟩
theorem eqk12n : ∀ x : inT Sk12n, exec ktab (ofL Ek5) 58 bodyk12n annk12n (finI ktab Sk12n) (argStI Sk12n x) = Fk12n x := by
  rintro ⟨a0, a1⟩
  kernel_rfl
theorem callsk12n : CallsI Go.Proofs.Try.prog 12 Sk12n Fk12n := by
  refine fun_callsI (fn := Go.Proofs.Try.f12) (c := bodyk12n) (ann := annk12n) ck12n (by kernel_rfl) (by kernel_rfl) (by kernel_rfl) (Nat.le_of_ble_eq_true (by kernel_rfl)) (annOk_of_cuts ?_) eqk12n
  intro x hx
  exact absurd hx (by show x ∉ ([] : List (List Nat × LEnt)); simp)

theorem entk12n : EntOk Go.Proofs.Try.prog 12 (funEntI Sk12n Fk12n) := fun_okI (fn := Go.Proofs.Try.f12) (c := bodyk12n) (by kernel_rfl) (by kernel_rfl) (by kernel_rfl) (by kernel_rfl) (by kernel_rfl) callsk12n
noncomputable def Ek12n : List (Nat × Ent) := (12, funEntI Sk12n Fk12n) :: Ek5
theorem Ek12n_ok : EntsOk Go.Proofs.Try.prog (ofL Ek12n) := .cons entk12n Ek5_ok

/-! ### (*barbican/keccak.Sponge).Read -/
noncomputable def bodyk13n : Code := (Go.Proofs.Try.f13.body).getD .skip
noncomputable def Fk13n : Unit × Int → Option (List Int × Int)
  | (a0, a1) =>
    some ([], 1)

noncomputable def annk13n : Ann := .none
abbrev Sk13n : FI := ⟨none, [.val (.c (.nilp)), .val (.c (.int .i64))], [.row 5 .u8, .val (.c (.int .i64))], none, [.tmp 4, .tmp 5]⟩
noncomputable def ck13n : Ctx Go.Proofs.Try.prog := ⟨ktab, ofL Ek12n, ktabOk, Ek12n_ok, kdep, kord⟩
theorem eqk13n : ∀ x : inT Sk13n, exec ktab (ofL Ek12n) 141 bodyk13n annk13n (finI ktab Sk13n) (argStI Sk13n x) = Fk13n x := by
  rintro ⟨a0, a1⟩
  kernel_rfl
theorem callsk13n : CallsI Go.Proofs.Try.prog 13 Sk13n Fk13n := by
  refine fun_callsI (fn := Go.Proofs.Try.f13) (c := bodyk13n) (ann := annk13n) ck13n (by kernel_rfl) (by kernel_rfl) (by kernel_rfl) (Nat.le_of_ble_eq_true (by kernel_rfl)) (annOk_of_cuts ?_) eqk13n
  intro x hx
  exact absurd hx (by show x ∉ ([] : List (List Nat × LEnt)); simp)

theorem entk13n : EntOk Go.Proofs.Try.prog 13 (funEntI Sk13n Fk13n) := fun_okI (fn := Go.Proofs.Try.f13) (c := bodyk13n) (by kernel_rfl) (by kernel_rfl) (by kernel_rfl) (by kernel_rfl) (by kernel_rfl) callsk13n
noncomputable def Ek13n : List (Nat × Ent) := (13, funEntI Sk13n Fk13n) :: Ek12n
theorem Ek13n_ok : EntsOk Go.Proofs.Try.prog (ofL Ek13n) := .cons entk13n Ek12n_ok

/-! ### (*barbican/keccak.Sponge).Left -/
noncomputable def bodyk23n : Code := (Go.Proofs.Try.f23.body).getD .skip
noncomputable def Fk23n : Unit → Option (Int)
  | a0 =>
    some 0

noncomputable def annk23n : Ann := .none
abbrev Sk23n : FI := ⟨none, [.val (.c (.nilp))], [.val (.c (.int .i64))], none, [.tmp 2]⟩
noncomputable def ck23n : Ctx Go.Proofs.Try.prog := ⟨ktab, ofL Ek13n, ktabOk, Ek13n_ok, kdep, kord⟩
theorem eqk23n : ∀ x : inT Sk23n, exec ktab (ofL Ek13n) 9 bodyk23n annk23n (finI ktab Sk23n) (argStI Sk23n x) = Fk23n x := by
  intro x
  kernel_rfl
theorem callsk23n : CallsI Go.Proofs.Try.prog 23 Sk23n Fk23n := by
  refine fun_callsI (fn := Go.Proofs.Try.f23) (c := bodyk23n) (ann := annk23n) ck23n (by kernel_rfl) (by kernel_rfl) (by kernel_rfl) (Nat.le_of_ble_eq_true (by kernel_rfl)) (annOk_of_cuts ?_) eqk23n
  intro x hx
  exact absurd hx (by show x ∉ ([] : List (List Nat × LEnt)); simp)

theorem entk23n : EntOk Go.Proofs.Try.prog 23 (funEntI Sk23n Fk23n) := fun_okI (fn := Go.Proofs.Try.f23) (c := bodyk23n) (by kernel_rfl) (by kernel_rfl) (by kernel_rfl) (by kernel_rfl) (by kernel_rfl) callsk23n
noncomputable def Ek23n : List (Nat × Ent) := (23, funEntI Sk23n Fk23n) :: Ek13n
theorem Ek23n_ok : EntsOk Go.Proofs.Try.prog (ofL Ek23n) := .cons entk23n Ek13n_ok

/-! ### (*barbican/keccak.Sponge).Copy -/
noncomputable def bodyk25n : Code := (Go.Proofs.Try.f25.body).getD .skip
noncomputable def Fk25n : Unit → Option (Unit)
  | a0 =>
    some ()

noncomputable def annk25n : Ann := .none
abbrev Sk25n : FI := ⟨none, [.val (.c (.nilp))], [.val (.c (.nilp))], none, [.tmp 2]⟩
noncomputable def ck25n : Ctx Go.Proofs.Try.prog := ⟨ktab, ofL Ek23n, ktabOk, Ek23n_ok, kdep, kord⟩
theorem eqk25n : ∀ x : inT Sk25n, exec ktab (ofL Ek23n) 9 bodyk25n annk25n (finI ktab Sk25n) (argStI Sk25n x) = Fk25n x := by
  intro x
  kernel_rfl
theorem callsk25n : CallsI Go.Proofs.Try.prog 25 Sk25n Fk25n := by
  refine fun_callsI (fn := Go.Proofs.Try.f25) (c := bodyk25n) (ann := annk25n) ck25n (by kernel_rfl) (by kernel_rfl) (by kernel_rfl) (Nat.le_of_ble_eq_true (by kernel_rfl)) (annOk_of_cuts ?_) eqk25n
  intro x hx
  exact absurd hx (by show x ∉ ([] : List (List Nat × LEnt)); simp)

theorem entk25n : EntOk Go.Proofs.Try.prog 25 (funEntI Sk25n Fk25n) := fun_okI (fn := Go.Proofs.Try.f25) (c := bodyk25n) (by kernel_rfl) (by kernel_rfl) (by kernel_rfl) (by kernel_rfl) (by kernel_rfl) callsk25n
noncomputable def Ek25n : List (Nat × Ent) := (25, funEntI Sk25n Fk25n) :: Ek23n
theorem Ek25n_ok : EntsOk Go.Proofs.Try.prog (ofL Ek25n) := .cons entk25n Ek23n_ok

/-! ### barbican/barbicanlaw03.KecNil -/
noncomputable def bodyk7 : Code := (Go.Proofs.Try.f7.body).getD .skip
noncomputable def Fk7 : List Int × Int → Option (Bool)
  | (a0, a1) =>
    (Fk8 ()).bind fun y1 =>
      (Fk13n ((), a1)).bind fun (y2, y3) =>
        if y1 = true then
          if ((y2.length : Int) == 0) = true then
            if (y3 == 1) = true then
              (Fk12n ((), a0)).bind fun y4 =>
                if (y4 == 1) = true then
                  (Fk23n ()).bind fun y5 =>
                    if (y5 == 0) = true then
                      (Fk25n ()).bind fun y6 =>
                        some true
                    else
                      some false
                else
                  some false
            else
              some false
          else
            some false
        else
          some false

noncomputable def annk7 : Ann := .none
abbrev Sk7 : FSh := ⟨[.ints .u8, .val (.c (.int .i64))], [.val (.c (.bool))], [.tmp 4]⟩
noncomputable def ck7 : Ctx Go.Proofs.Try.prog := ⟨ktab, ofL Ek25n, ktabOk, Ek25n_ok, kdep, kord⟩
theorem eqk7 : ∀ x : psT Sk7.ps, exec ktab (ofL Ek25n) 42 bodyk7 annk7 (fin ktab Sk7) (argSt Sk7 x) = Fk7 x := by
  rintro ⟨a0, a1⟩
  kernel_rfl
theorem callsk7 : CallsAs Go.Proofs.Try.prog ck7 7 Sk7 Fk7 := by
  refine fun_calls (fn := Go.Proofs.Try.f7) (c := bodyk7) (ann := annk7) ck7 (by kernel_rfl) (by kernel_rfl) (by kernel_rfl) (by decide) (annOk_of_cuts ?_) eqk7
  intro x hx
  exact absurd hx (by show x ∉ ([] : List (List Nat × LEnt)); simp)

theorem entk7 : EntOk Go.Proofs.Try.prog 7 (funEnt Sk7 Fk7) := fun_ok ck7 (fn := Go.Proofs.Try.f7) (c := bodyk7) (by kernel_rfl) (by kernel_rfl) (by kernel_rfl) rfl rfl (by decide) callsk7
noncomputable def Ek7 : List (Nat × Ent) := (7, funEnt Sk7 Fk7) :: Ek25n
theorem Ek7_ok : EntsOk Go.Proofs.Try.prog (ofL Ek7) := .cons entk7 Ek25n_ok
end Go.Abs
