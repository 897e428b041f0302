import Derived.Test.YtlloghihfigalaaAbsTabL
import Derived.Test.YtlloghihfigalaaChecked
import Derived.KernelRfl
set_option linter.unusedVariables false
set_option maxRecDepth 100000
namespace Go.Abs
def ktab : Tab := [
  (3, ⟨.int .i64, 1, 8, [.int .i64 0]⟩),
  (4, ⟨.bool, 1, 1, [.bool false]⟩),
  (5, ⟨.int .u8, 1, 1, [.int .u8 0]⟩),
  (9, ⟨.str, 1, 16, [.str ByteArray.empty]⟩),
  (22, ⟨.int .u64, 1, 8, [.int .u64 0]⟩),
  (23, ⟨.array 25 22, 25, 200, [.ints .u64 25 (fun _ => 0)]⟩),
  (27, ⟨.slice 33, 1, 24, [.val (.slice none 0 0)]⟩),
  (28, ⟨.slice 3, 1, 24, [.val (.slice none 0 0)]⟩),
  (29, ⟨.ptr, 1, 8, [.val (.pointer none)]⟩),
  (33, ⟨.slice 5, 1, 24, [.val (.slice none 0 0)]⟩),
  (41, ⟨.array 32 5, 32, 32, [.ints .u8 32 (fun _ => 0)]⟩),
  (43, ⟨.array 64 5, 64, 64, [.ints .u8 64 (fun _ => 0)]⟩),
  (47, ⟨.slice 56, 1, 24, [.val (.slice none 0 0)]⟩),
  (49, ⟨.ptr, 1, 8, [.val (.pointer none)]⟩),
  (51, ⟨.struct [(29, 0), (49, 1)], 2, 16, [.val (.pointer none), .val (.pointer none)]⟩),
  (56, ⟨.struct [(3, 0), (3, 1), (33, 2)], 3, 40, [.int .i64 0, .int .i64 0, .val (.slice none 0 0)]⟩),
  (61, ⟨.array 5 22, 5, 40, [.ints .u64 5 (fun _ => 0)]⟩),
  (64, ⟨.int .u64, 1, 8, [.int .u64 0]⟩),
  (65, ⟨.array 25 3, 25, 200, [.ints .i64 25 (fun _ => 0)]⟩),
  (67, ⟨.array 24 22, 24, 192, [.ints .u64 24 (fun _ => 0)]⟩),
  (70, ⟨.struct [(3, 0), (23, 1), (3, 26), (4, 27), (3, 28)], 29, 232, [.int .i64 0, .ints .u64 25 (fun _ => 0), .int .i64 0, .bool false, .int .i64 0]⟩),
  (73, ⟨.struct [(3, 0), (33, 1), (4, 2), (3, 3), (23, 4), (3, 29)], 30, 256, [.int .i64 0, .val (.slice none 0 0), .bool false, .int .i64 0, .ints .u64 25 (fun _ => 0), .int .i64 0]⟩)]
theorem ktabOk : TabOk Go.Proofs.Try.prog ktab := tabChk_ok (by kernel_rfl)
theorem kdep : 4 ≤ (Go.Proofs.Try.prog).depth := by
  have : Nat.ble 4 ((Go.Proofs.Try.prog).depth) = true := by kernel_rfl
  exact Nat.le_of_ble_eq_true this
theorem kord : (Go.Proofs.Try.prog).follows .mixedOrders = true := by kernel_rfl
def kstr0 : ByteArray := ⟨#[0, 32, 48, 64, 0, 0]⟩
def kstr1 : ByteArray := ⟨#[0, 136, 104, 72, 168, 136]⟩
def kstr2 : ByteArray := ⟨#[0, 6, 6, 6, 31, 31]⟩
noncomputable def kE0 : List (Nat × Ent) := []
theorem kE0_ok : EntsOk Go.Proofs.Try.prog (ofL kE0) := .nil _

/-! ### barbican/keccak.New -/
noncomputable def bodyk11 : Code := (Go.Proofs.Try.f11.body).getD .skip
abbrev Sk11 : FL := ⟨⟨[], [.env 0 (.c (.int .i64))], []⟩, 1, [(.ret, ⟨[(0, .ptr 1 0 29)], [.reg 1 (.cells [.int .i64, .ints .u64 25, .int .i64, .bool, .int .i64]), .env 1 (.c (.int .i64))], [(1, .env 0 0)]⟩), (.ret, ⟨[(0, .nilp)], [.env 1 (.c (.int .i64))], []⟩)], [.tmp 2, .tmp 3], false⟩
noncomputable def ck11 : Ctx Go.Proofs.Try.prog := ⟨ktab, ofL kE0, ktabOk, kE0_ok, kdep, kord⟩
noncomputable def Fk11 : Int → Option (((Int × (Nat → Int) × Int × Bool × Int) × Int) ⊕ (Int))
  | a0 =>
    if (decide (a0 < 1)) = false then
      if (decide (a0 > 5)) = true then
        some (.inr 31)
      else
        if 0 ≤ a0 ∧ a0 < (kstr0.size : Int) then
          if ((IntKind.i64.wrap (strAt kstr0 a0)) == 0) = true then
            some (.inl ((a0, (fun _ => 0), 0, false, (-1)), 0))
          else
            some (.inl ((a0, (fun _ => 0), 0, false, (IntKind.i64.wrap (strAt kstr0 a0))), 0))
        else none
    else
      some (.inr 31)

noncomputable def annk11 : Ann := .none
theorem eqk11 : ∀ x : Sk11.inT, exec ktab (ofL kE0) 26 bodyk11 annk11 (finL ktab Sk11) (Sk11.inp.enc x) = Fk11 x := by
  intro x
  kernel_rfl
theorem callsk11 : CallsL Go.Proofs.Try.prog 11 Sk11 Fk11 := by
  refine fun_callsL (fn := Go.Proofs.Try.f11) (c := bodyk11) (ann := annk11) ck11 (by kernel_rfl) (by kernel_rfl) (by kernel_rfl) (by kernel_rfl) (by kernel_rfl) (annOk_of_cuts ?_) eqk11
  intro x hx
  exact absurd hx (by show x ∉ ([] : List (List Nat × LEnt)); simp)

theorem entk11 : EntOk Go.Proofs.Try.prog 11 (funEntL Sk11 true Fk11) := fun_okL (fn := Go.Proofs.Try.f11) (c := bodyk11) (by kernel_rfl) (by kernel_rfl) (by kernel_rfl) (by kernel_rfl) callsk11
noncomputable def Ek11 : List (Nat × Ent) := (11, funEntL Sk11 true Fk11) :: kE0
theorem Ek11_ok : EntsOk Go.Proofs.Try.prog (ofL Ek11) := .cons entk11 kE0_ok

/-! ### (*barbican/keccak.Sponge).mix -/
noncomputable def bodyk30 : Code := (Go.Proofs.Try.f30.body).getD .skip
abbrev Sk30 : FL := ⟨⟨[(0, .ptr 1000000 0 29)], [.reg 1000000 (.cells [.int .i64, .ints .u64 25, .int .i64, .bool, .int .i64]), .env 1 (.c (.int .i64)), .env 2 (.c (.int .u8))], [(1000000, .env 0 0)]⟩, 3, [(.ret, ⟨[], [.reg 1000000 (.cells [.int .i64, .ints .u64 25, .int .i64, .bool, .int .i64])], []⟩)], [], false⟩
noncomputable def ck30 : Ctx Go.Proofs.Try.prog := ⟨ktab, ofL Ek11, ktabOk, Ek11_ok, kdep, kord⟩
noncomputable def Fk30 : (Int × (Nat → Int) × Int × Bool × Int) × Int × Int → Option ((Int × (Nat → Int) × Int × Bool × Int))
  | (io, a1, a2) =>
    if (0 : Int) ≤ (IntKind.i64.wrap (a1.tdiv 8)) ∧ (IntKind.i64.wrap (a1.tdiv 8)) < ((25 : Int) : Int) then
      if 0 ≤ (IntKind.i64.wrap (8 * (a1.tmod 8))) then
        let x1 : Int := (shlI .u64 (IntKind.u64.wrap a2) (IntKind.i64.wrap (8 * (a1.tmod 8))))
        let x2 : Int := (bitsXor .u64 (io.2.1 (IntKind.i64.wrap (a1.tdiv 8)).toNat) x1)
        if (0 : Int) ≤ (IntKind.i64.wrap (a1.tdiv 8)) ∧ (IntKind.i64.wrap (a1.tdiv 8)) < ((25 : Int) : Int) then
          some (io.1, (upd io.2.1 (IntKind.i64.wrap (a1.tdiv 8)).toNat x2), io.2.2.1, io.2.2.2.1, io.2.2.2.2)
        else none
      else none
    else none

noncomputable def annk30 : Ann := .none
theorem eqk30 : ∀ x : Sk30.inT, exec ktab (ofL Ek11) 23 bodyk30 annk30 (finL ktab Sk30) (Sk30.inp.enc x) = Fk30 x := by
  rintro ⟨io, a1, a2⟩
  kernel_rfl
theorem callsk30 : CallsL Go.Proofs.Try.prog 30 Sk30 Fk30 := by
  refine fun_callsL (fn := Go.Proofs.Try.f30) (c := bodyk30) (ann := annk30) ck30 (by kernel_rfl) (by kernel_rfl) (by kernel_rfl) (by kernel_rfl) (by kernel_rfl) (annOk_of_cuts ?_) eqk30
  intro x hx
  exact absurd hx (by show x ∉ ([] : List (List Nat × LEnt)); simp)

theorem entk30 : EntOk Go.Proofs.Try.prog 30 (funEntL Sk30 true Fk30) := fun_okL (fn := Go.Proofs.Try.f30) (c := bodyk30) (by kernel_rfl) (by kernel_rfl) (by kernel_rfl) (by kernel_rfl) callsk30
noncomputable def Ek30 : List (Nat × Ent) := (30, funEntL Sk30 true Fk30) :: Ek11
theorem Ek30_ok : EntsOk Go.Proofs.Try.prog (ofL Ek30) := .cons entk30 Ek11_ok

/-! ### math/bits.RotateLeft64 -/
noncomputable def bodyk26 : Code := (Go.Proofs.Try.f26.body).getD .skip
abbrev Sk26 : FL := ⟨⟨[], [.env 0 (.c (.int .u64)), .env 1 (.c (.int .i64))], []⟩, 2, [(.ret, ⟨[], [.env 0 (.c (.int .u64))], []⟩)], [.tmp 4], false⟩
noncomputable def ck26 : Ctx Go.Proofs.Try.prog := ⟨ktab, ofL Ek30, ktabOk, Ek30_ok, kdep, kord⟩
noncomputable def Fk26 : Int × Int → Option ((Int))
  | (a0, a1) =>
    if 0 ≤ (bitsAnd .u64 (IntKind.u64.wrap a1) 63) then
      let x1 : Int := (IntKind.u64.wrap (64 - (bitsAnd .u64 (IntKind.u64.wrap a1) 63)))
      if 0 ≤ x1 then
        let x2 : Int := (bitsOr .u64 (shlI .u64 a0 (bitsAnd .u64 (IntKind.u64.wrap a1) 63)) (shrI .u64 a0 x1))
        some x2
      else none
    else none

noncomputable def annk26 : Ann := .none
theorem eqk26 : ∀ x : Sk26.inT, exec ktab (ofL Ek30) 17 bodyk26 annk26 (finL ktab Sk26) (Sk26.inp.enc x) = Fk26 x := by
  rintro ⟨a0, a1⟩
  kernel_rfl
theorem callsk26 : CallsL Go.Proofs.Try.prog 26 Sk26 Fk26 := by
  refine fun_callsL (fn := Go.Proofs.Try.f26) (c := bodyk26) (ann := annk26) ck26 (by kernel_rfl) (by kernel_rfl) (by kernel_rfl) (by kernel_rfl) (by kernel_rfl) (annOk_of_cuts ?_) eqk26
  intro x hx
  exact absurd hx (by show x ∉ ([] : List (List Nat × LEnt)); simp)

theorem entk26 : EntOk Go.Proofs.Try.prog 26 (funEntL Sk26 true Fk26) := fun_okL (fn := Go.Proofs.Try.f26) (c := bodyk26) (by kernel_rfl) (by kernel_rfl) (by kernel_rfl) (by kernel_rfl) callsk26
noncomputable def Ek26 : List (Nat × Ent) := (26, funEntL Sk26 true Fk26) :: Ek30
theorem Ek26_ok : EntsOk Go.Proofs.Try.prog (ofL Ek26) := .cons entk26 Ek30_ok

/-! ### barbican/keccak.Permute -/
noncomputable def bodyk9 : Code := (Go.Proofs.Try.f9.body).getD .skip
abbrev Sk9 : FL := ⟨⟨[], [.env 0 (.agg [.ints .u64 25])], []⟩, 1, [(.ret, ⟨[], [.env 0 (.agg [.ints .u64 25])], []⟩)], [.cell 2 23], false⟩
noncomputable def ck9 : Ctx Go.Proofs.Try.prog := ⟨ktab, ofL Ek26, ktabOk, Ek26_ok, kdep, kord⟩
abbrev lk9_1 : Lay := ⟨[(1, .ptr 1 0 25), (2, .ptr 2 0 25), (4, .ptr 4 0 5)], [.env 3 (.c (.int .u8)), .env 17 (.c (.int .i64)), .env 19 (.agg [.ints .u64 25]), .env 20 (.c (.int .i64)), .reg 1 (.cells [.ints .u64 25]), .reg 2 (.cells [.ints .u64 25]), .reg 4 (.cells [.ints .u64 5])], [(1, .env 1 0), (2, .env 2 0), (4, .env 4 0)]⟩
abbrev ok9_1 : List (AExit × Lay) := [(.exit 2, ⟨[(1, .ptr 1 0 25), (2, .ptr 2 0 25), (4, .ptr 4 0 5)], [.env 3 (.c (.int .u8)), .env 17 (.c (.int .i64)), .reg 1 (.cells [.ints .u64 25]), .reg 2 (.cells [.ints .u64 25]), .reg 4 (.cells [.ints .u64 5])], [(1, .env 1 0), (2, .env 2 0), (4, .env 4 0)]⟩)]
noncomputable def stepk9_1 : Int × Int × (Nat → Int) × Int × (Nat → Int) × (Nat → Int) × (Nat → Int) → Option ((Int × Int × (Nat → Int) × Int × (Nat → Int) × (Nat → Int) × (Nat → Int)) ⊕ ((Int × Int × (Nat → Int) × (Nat → Int) × (Nat → Int))))
  | (t3, t17, t19, t20, r1, r2, r4) =>
    if (decide (t20 < 25)) = true then
      if (0 : Int) ≤ t20 ∧ t20 < (25 : Int) then
        if (0 : Int) ≤ (t20.tmod 5) ∧ (t20.tmod 5) < ((5 : Int) : Int) then
          if (0 : Int) ≤ (t20.tmod 5) ∧ (t20.tmod 5) < ((5 : Int) : Int) then
            let f1 : Nat → Int := (upd r4 (t20.tmod 5).toNat (bitsXor .u64 (r4 (t20.tmod 5).toNat) (t19 t20.toNat)))
            some (.inl (t3, t17, t19, (IntKind.i64.wrap (t20 + 1)), r1, r2, f1))
          else none
        else none
      else none
    else
      some (.inr (t3, t17, r1, r2, r4))

noncomputable def annk9_1 : Ann := .none
abbrev lk9_2 : Lay := ⟨[(1, .ptr 1 0 25), (2, .ptr 2 0 25), (4, .ptr 4 0 5)], [.env 3 (.c (.int .u8)), .env 17 (.c (.int .i64)), .env 32 (.c (.int .i64)), .reg 1 (.cells [.ints .u64 25]), .reg 2 (.cells [.ints .u64 25]), .reg 4 (.cells [.ints .u64 5])], [(1, .env 1 0), (2, .env 2 0), (4, .env 4 0)]⟩
abbrev ok9_2 : List (AExit × Lay) := [(.exit 4, ⟨[(1, .ptr 1 0 25), (2, .ptr 2 0 25)], [.env 3 (.c (.int .u8)), .env 17 (.c (.int .i64)), .reg 1 (.cells [.ints .u64 25]), .reg 2 (.cells [.ints .u64 25])], [(1, .env 1 0), (2, .env 2 0)]⟩)]
noncomputable def stepk9_2 : Int × Int × Int × (Nat → Int) × (Nat → Int) × (Nat → Int) → Option ((Int × Int × Int × (Nat → Int) × (Nat → Int) × (Nat → Int)) ⊕ ((Int × Int × (Nat → Int) × (Nat → Int))))
  | (t3, t17, t32, r1, r2, r4) =>
    if (decide (t32 < 25)) = true then
      if (0 : Int) ≤ t32 ∧ t32 < ((25 : Int) : Int) then
        if (0 : Int) ≤ ((IntKind.i64.wrap (t32 + 4)).tmod 5) ∧ ((IntKind.i64.wrap (t32 + 4)).tmod 5) < ((5 : Int) : Int) then
          if (0 : Int) ≤ ((IntKind.i64.wrap (t32 + 1)).tmod 5) ∧ ((IntKind.i64.wrap (t32 + 1)).tmod 5) < ((5 : Int) : Int) then
            (Fk26 ((r4 ((IntKind.i64.wrap (t32 + 1)).tmod 5).toNat), 1)).bind fun y7 =>
              let x8 : Int := (bitsXor .u64 (r4 ((IntKind.i64.wrap (t32 + 4)).tmod 5).toNat) y7)
              if (0 : Int) ≤ t32 ∧ t32 < ((25 : Int) : Int) then
                some (.inl (t3, t17, (IntKind.i64.wrap (t32 + 1)), (upd r1 t32.toNat (bitsXor .u64 (r1 t32.toNat) x8)), r2, r4))
              else none
          else none
        else none
      else none
    else
      some (.inr (t3, t17, r1, r2))

noncomputable def annk9_2 : Ann := .none
abbrev lk9_3 : Lay := ⟨[(1, .ptr 1 0 25), (2, .ptr 2 0 25)], [.env 3 (.c (.int .u8)), .env 8 (.c (.int .i64)), .env 9 (.c (.int .i64)), .env 10 (.c (.int .u64)), .env 17 (.c (.int .i64)), .env 55 (.c (.int .i64)), .reg 1 (.cells [.ints .u64 25]), .reg 2 (.cells [.ints .u64 25])], [(1, .env 1 0), (2, .env 2 0)]⟩
abbrev ok9_3 : List (AExit × Lay) := [(.exit 6, ⟨[(1, .ptr 1 0 25), (2, .ptr 2 0 25)], [.env 3 (.c (.int .u8)), .env 17 (.c (.int .i64)), .reg 1 (.cells [.ints .u64 25]), .reg 2 (.cells [.ints .u64 25])], [(1, .env 1 0), (2, .env 2 0)]⟩)]
noncomputable def stepk9_3 : Int × Int × Int × Int × Int × Int × (Nat → Int) × (Nat → Int) → Option ((Int × Int × Int × Int × Int × Int × (Nat → Int) × (Nat → Int)) ⊕ ((Int × Int × (Nat → Int) × (Nat → Int))))
  | (t3, t8, t9, t10, t17, t55, r1, r2) =>
    if (decide (t55 < 24)) = true then
      let x13 : Int := (IntKind.i64.wrap ((IntKind.i64.wrap (2 * t8)) + (IntKind.i64.wrap (3 * t9))))
      let x14 : Int := (IntKind.i64.wrap ((IntKind.i64.wrap (t55 + 1)) * (IntKind.i64.wrap (t55 + 2))))
      (Fk26 (t10, ((IntKind.i64.wrap (x14.tdiv 2)).tmod 64))).bind fun y15 =>
        let x16 : Int := (IntKind.i64.wrap (t9 + (IntKind.i64.wrap (5 * (x13.tmod 5)))))
        let x17 : Int := (IntKind.i64.wrap (t9 + (IntKind.i64.wrap (5 * (x13.tmod 5)))))
        if (0 : Int) ≤ x17 ∧ x17 < ((25 : Int) : Int) then
          if (0 : Int) ≤ x16 ∧ x16 < ((25 : Int) : Int) then
            some (.inl (t3, t9, (x13.tmod 5), (r1 x17.toNat), t17, (IntKind.i64.wrap (t55 + 1)), (upd r1 x16.toNat y15), r2))
          else none
        else none
    else
      some (.inr (t3, t17, r1, r2))

noncomputable def annk9_3 : Ann := .none
abbrev lk9_5 : Lay := ⟨[(1, .ptr 1 0 25), (2, .ptr 2 0 25), (14, .ptr 14 0 5)], [.env 3 (.c (.int .u8)), .env 13 (.c (.int .i64)), .env 17 (.c (.int .i64)), .env 97 (.c (.int .i64)), .reg 1 (.cells [.ints .u64 25]), .reg 2 (.cells [.ints .u64 25]), .reg 14 (.cells [.ints .u64 5])], [(1, .env 1 0), (2, .env 2 0), (14, .env 14 0)]⟩
abbrev ok9_5 : List (AExit × Lay) := [(.exit 10, ⟨[(1, .ptr 1 0 25), (2, .ptr 2 0 25)], [.env 3 (.c (.int .u8)), .env 13 (.c (.int .i64)), .env 17 (.c (.int .i64)), .reg 1 (.cells [.ints .u64 25]), .reg 2 (.cells [.ints .u64 25])], [(1, .env 1 0), (2, .env 2 0)]⟩)]
noncomputable def stepk9_5 : Int × Int × Int × Int × (Nat → Int) × (Nat → Int) × (Nat → Int) → Option ((Int × Int × Int × Int × (Nat → Int) × (Nat → Int) × (Nat → Int)) ⊕ ((Int × Int × Int × (Nat → Int) × (Nat → Int))))
  | (t3, t13, t17, t97, r1, r2, r14) =>
    if (decide (t97 < 5)) = true then
      if (0 : Int) ≤ t97 ∧ t97 < ((5 : Int) : Int) then
        if (0 : Int) ≤ ((IntKind.i64.wrap (t97 + 1)).tmod 5) ∧ ((IntKind.i64.wrap (t97 + 1)).tmod 5) < ((5 : Int) : Int) then
          let x22 : Int := (notI .u64 (r14 ((IntKind.i64.wrap (t97 + 1)).tmod 5).toNat))
          if (0 : Int) ≤ ((IntKind.i64.wrap (t97 + 2)).tmod 5) ∧ ((IntKind.i64.wrap (t97 + 2)).tmod 5) < ((5 : Int) : Int) then
            let x23 : Int := (bitsAnd .u64 x22 (r14 ((IntKind.i64.wrap (t97 + 2)).tmod 5).toNat))
            if (0 : Int) ≤ (IntKind.i64.wrap (t13 + t97)) ∧ (IntKind.i64.wrap (t13 + t97)) < ((25 : Int) : Int) then
              let f24 : Nat → Int := (upd r1 (IntKind.i64.wrap (t13 + t97)).toNat (bitsXor .u64 (r14 t97.toNat) x23))
              some (.inl (t3, t13, t17, (IntKind.i64.wrap (t97 + 1)), f24, r2, r14))
            else none
          else none
        else none
      else none
    else
      some (.inr (t3, t13, t17, r1, r2))

noncomputable def annk9_5 : Ann := .none
abbrev lk9_4 : Lay := ⟨[(1, .ptr 1 0 25), (2, .ptr 2 0 25)], [.env 3 (.c (.int .u8)), .env 13 (.c (.int .i64)), .env 17 (.c (.int .i64)), .reg 1 (.cells [.ints .u64 25]), .reg 2 (.cells [.ints .u64 25])], [(1, .env 1 0), (2, .env 2 0)]⟩
abbrev ok9_4 : List (AExit × Lay) := [(.exit 8, ⟨[(1, .ptr 1 0 25), (2, .ptr 2 0 25)], [.env 3 (.c (.int .u8)), .env 17 (.c (.int .i64)), .reg 1 (.cells [.ints .u64 25]), .reg 2 (.cells [.ints .u64 25])], [(1, .env 1 0), (2, .env 2 0)]⟩)]
noncomputable def stepk9_4 : Int × Int × Int × (Nat → Int) × (Nat → Int) → Option ((Int × Int × Int × (Nat → Int) × (Nat → Int)) ⊕ ((Int × Int × (Nat → Int) × (Nat → Int))))
  | (t3, t13, t17, r1, r2) =>
    if (decide (t13 < 25)) = true then
      if (0 : Int) ≤ t13 ∧ t13 ≤ (IntKind.i64.wrap (t13 + 5)) ∧ (IntKind.i64.wrap (t13 + 5)) ≤ ((25 : Int) : Int) then
        if (5 : Int) ≤ ((((IntKind.i64.wrap (t13 + 5)).toNat - t13.toNat) : Nat) : Int) then
          (loopO stepk9_5 (t3, t13, t17, 0, r1, r2, (fun j => r1 (t13.toNat + j)))).bind fun (z25, z26, z27, z28, z29) =>
            some (.inl (z25, (IntKind.i64.wrap (z26 + 5)), z27, z28, z29))
        else none
      else none
    else
      some (.inr (t3, t17, r1, r2))

noncomputable def annk9_4 : Ann := (.seq .none (.seq (.seq (.seq .none (.seq .none (.seq (.cut (cutEnt lk9_5 ok9_5 (loopO (stepk9_5)))) .none))) .none) .none))
abbrev lk9_6 : Lay := ⟨[(1, .ptr 1 0 25), (2, .ptr 2 0 25)], [.env 3 (.c (.int .u8)), .env 17 (.c (.int .i64)), .env 121 (.c (.int .i64)), .reg 1 (.cells [.ints .u64 25]), .reg 2 (.cells [.ints .u64 25])], [(1, .env 1 0), (2, .env 2 0)]⟩
abbrev ok9_6 : List (AExit × Lay) := [(.exit 12, ⟨[(1, .ptr 1 0 25), (2, .ptr 2 0 25)], [.env 3 (.c (.int .u8)), .env 17 (.c (.int .i64)), .reg 1 (.cells [.ints .u64 25]), .reg 2 (.cells [.ints .u64 25])], [(1, .env 1 0), (2, .env 2 0)]⟩)]
noncomputable def stepk9_6 : Int × Int × Int × (Nat → Int) × (Nat → Int) → Option ((Int × Int × Int × (Nat → Int) × (Nat → Int)) ⊕ ((Int × Int × (Nat → Int) × (Nat → Int))))
  | (t3, t17, t121, r1, r2) =>
    if (decide (t121 < 7)) = true then
      if 0 ≤ t121 then
        if 0 ≤ (IntKind.u64.wrap ((shlI .u64 1 t121) - 1)) then
          let x34 : Int := (shlI .u64 (IntKind.u64.wrap (bitsAnd .u8 t3 1)) (IntKind.u64.wrap ((shlI .u64 1 t121) - 1)))
          let x35 : Int := (bitsXor .u8 (shlI .u8 t3 1) (IntKind.u8.wrap ((shrI .u8 t3 7) * 113)))
          some (.inl (x35, t17, (IntKind.i64.wrap (t121 + 1)), (upd r1 0 (bitsXor .u64 (r1 0) x34)), r2))
        else none
      else none
    else
      some (.inr (t3, t17, r1, r2))

noncomputable def annk9_6 : Ann := .none
abbrev lk9_0 : Lay := ⟨[(1, .ptr 1 0 25), (2, .ptr 2 0 25)], [.env 3 (.c (.int .u8)), .env 17 (.c (.int .i64)), .reg 1 (.cells [.ints .u64 25]), .reg 2 (.cells [.ints .u64 25])], [(1, .env 1 0), (2, .env 2 0)]⟩
abbrev ok9_0 : List (AExit × Lay) := [(.exit 0, ⟨[(1, .ptr 1 0 25), (2, .ptr 2 0 25)], [.reg 1 (.cells [.ints .u64 25]), .reg 2 (.cells [.ints .u64 25])], [(1, .env 1 0), (2, .env 2 0)]⟩)]
noncomputable def stepk9_0 : Int × Int × (Nat → Int) × (Nat → Int) → Option ((Int × Int × (Nat → Int) × (Nat → Int)) ⊕ (((Nat → Int) × (Nat → Int))))
  | (t3, t17, r1, r2) =>
    if (decide (t17 < 24)) = true then
      (loopO stepk9_1 (t3, t17, r1, 0, r1, r2, (fun _ => 0))).bind fun (z2, z3, z4, z5, z6) =>
        (loopO stepk9_2 (z2, z3, 0, z4, z5, z6)).bind fun (z9, z10, z11, z12) =>
          (loopO stepk9_3 (z9, 1, 0, (z11 1), z10, 0, z11, z12)).bind fun (z18, z19, z20, z21) =>
            (loopO stepk9_4 (z18, 0, z19, z20, z21)).bind fun (z30, z31, z32, z33) =>
              (loopO stepk9_6 (z30, z31, 0, z32, z33)).bind fun (z36, z37, z38, z39) =>
                some (.inl (z36, (IntKind.i64.wrap (z37 + 1)), z38, z39))
    else
      some (.inr (r1, r2))

noncomputable def annk9_0 : Ann := (.seq .none (.seq .none (.seq (.seq (.seq .none (.seq (.seq .none (.seq (.cut (cutEnt lk9_1 ok9_1 (loopO (stepk9_1)))) .none)) (.seq (.seq .none (.seq (.cut (cutEnt lk9_2 ok9_2 (loopO (stepk9_2)))) .none)) (.seq .none (.seq .none (.seq (.seq .none (.seq (.cut (cutEnt lk9_3 ok9_3 (loopO (stepk9_3)))) .none)) (.seq (.seq .none (.seq (.cut (cutEnt lk9_4 ok9_4 (loopO (stepk9_4)))) .none)) (.seq .none (.seq (.cut (cutEnt lk9_6 ok9_6 (loopO (stepk9_6)))) .none))))))))) .none) .none)))
noncomputable def Fk9 : (Nat → Int) → Option (((Nat → Int)))
  | a0 =>
    (loopO stepk9_0 (1, 0, a0, (fun _ => 0))).bind fun (z40, z41) =>
      some z40

noncomputable def annk9 : Ann := (.seq .none (.seq .none (.seq (.seq .none (.seq (.cut (cutEnt lk9_0 ok9_0 (loopO (stepk9_0)))) .none)) .none)))
theorem eqk9_1 : ∀ s : lk9_1.T, exec ktab (ofL Ek26) 144 (Code.at' [1, 1, 0, 1, 0, 0, 1, 1, 0, 0, 1, 0, 1, 0, 0] bodyk9) annk9_1 (fun e st => loopEnd (l := lk9_1) (outs := ok9_1) e st) (lk9_1.enc s) = stepk9_1 s := by
  rintro ⟨t3, t17, t19, t20, r1, r2, r4⟩
  kernel_rfl
theorem okk9_1 : LOk Go.Proofs.Try.prog 144 (cutEnt lk9_1 ok9_1 (loopO stepk9_1)) (Code.at' [1, 1, 0, 1, 0, 0, 1, 1, 0, 0, 1, 0, 1, 0] bodyk9) := by
  have e : Code.at' [1, 1, 0, 1, 0, 0, 1, 1, 0, 0, 1, 0, 1, 0] bodyk9 = .loop (Code.at' [1, 1, 0, 1, 0, 0, 1, 1, 0, 0, 1, 0, 1, 0, 0] bodyk9) := by kernel_rfl
  rw [e]
  refine loop_ok ck9 144 rfl rfl (annOk_of_cuts ?_) eqk9_1
  intro x hx
  exact absurd hx (by show x ∉ ([] : List (List Nat × LEnt)); simp)

theorem eqk9_2 : ∀ s : lk9_2.T, exec ktab (ofL Ek26) 144 (Code.at' [1, 1, 0, 1, 0, 0, 1, 1, 0, 0, 1, 1, 0, 1, 0, 0] bodyk9) annk9_2 (fun e st => loopEnd (l := lk9_2) (outs := ok9_2) e st) (lk9_2.enc s) = stepk9_2 s := by
  rintro ⟨t3, t17, t32, r1, r2, r4⟩
  kernel_rfl
theorem okk9_2 : LOk Go.Proofs.Try.prog 144 (cutEnt lk9_2 ok9_2 (loopO stepk9_2)) (Code.at' [1, 1, 0, 1, 0, 0, 1, 1, 0, 0, 1, 1, 0, 1, 0] bodyk9) := by
  have e : Code.at' [1, 1, 0, 1, 0, 0, 1, 1, 0, 0, 1, 1, 0, 1, 0] bodyk9 = .loop (Code.at' [1, 1, 0, 1, 0, 0, 1, 1, 0, 0, 1, 1, 0, 1, 0, 0] bodyk9) := by kernel_rfl
  rw [e]
  refine loop_ok ck9 144 rfl rfl (annOk_of_cuts ?_) eqk9_2
  intro x hx
  exact absurd hx (by show x ∉ ([] : List (List Nat × LEnt)); simp)

theorem eqk9_3 : ∀ s : lk9_3.T, exec ktab (ofL Ek26) 144 (Code.at' [1, 1, 0, 1, 0, 0, 1, 1, 0, 0, 1, 1, 1, 1, 1, 0, 1, 0, 0] bodyk9) annk9_3 (fun e st => loopEnd (l := lk9_3) (outs := ok9_3) e st) (lk9_3.enc s) = stepk9_3 s := by
  rintro ⟨t3, t8, t9, t10, t17, t55, r1, r2⟩
  kernel_rfl
theorem okk9_3 : LOk Go.Proofs.Try.prog 144 (cutEnt lk9_3 ok9_3 (loopO stepk9_3)) (Code.at' [1, 1, 0, 1, 0, 0, 1, 1, 0, 0, 1, 1, 1, 1, 1, 0, 1, 0] bodyk9) := by
  have e : Code.at' [1, 1, 0, 1, 0, 0, 1, 1, 0, 0, 1, 1, 1, 1, 1, 0, 1, 0] bodyk9 = .loop (Code.at' [1, 1, 0, 1, 0, 0, 1, 1, 0, 0, 1, 1, 1, 1, 1, 0, 1, 0, 0] bodyk9) := by kernel_rfl
  rw [e]
  refine loop_ok ck9 144 rfl rfl (annOk_of_cuts ?_) eqk9_3
  intro x hx
  exact absurd hx (by show x ∉ ([] : List (List Nat × LEnt)); simp)

theorem eqk9_5 : ∀ s : lk9_5.T, exec ktab (ofL Ek26) 144 (Code.at' [1, 1, 0, 1, 0, 0, 1, 1, 0, 0, 1, 1, 1, 1, 1, 1, 0, 1, 0, 0, 1, 0, 0, 1, 1, 0, 0] bodyk9) annk9_5 (fun e st => loopEnd (l := lk9_5) (outs := ok9_5) e st) (lk9_5.enc s) = stepk9_5 s := by
  rintro ⟨t3, t13, t17, t97, r1, r2, r14⟩
  kernel_rfl
theorem okk9_5 : LOk Go.Proofs.Try.prog 144 (cutEnt lk9_5 ok9_5 (loopO stepk9_5)) (Code.at' [1, 1, 0, 1, 0, 0, 1, 1, 0, 0, 1, 1, 1, 1, 1, 1, 0, 1, 0, 0, 1, 0, 0, 1, 1, 0] bodyk9) := by
  have e : Code.at' [1, 1, 0, 1, 0, 0, 1, 1, 0, 0, 1, 1, 1, 1, 1, 1, 0, 1, 0, 0, 1, 0, 0, 1, 1, 0] bodyk9 = .loop (Code.at' [1, 1, 0, 1, 0, 0, 1, 1, 0, 0, 1, 1, 1, 1, 1, 1, 0, 1, 0, 0, 1, 0, 0, 1, 1, 0, 0] bodyk9) := by kernel_rfl
  rw [e]
  refine loop_ok ck9 144 rfl rfl (annOk_of_cuts ?_) eqk9_5
  intro x hx
  exact absurd hx (by show x ∉ ([] : List (List Nat × LEnt)); simp)

theorem eqk9_4 : ∀ s : lk9_4.T, exec ktab (ofL Ek26) 144 (Code.at' [1, 1, 0, 1, 0, 0, 1, 1, 0, 0, 1, 1, 1, 1, 1, 1, 0, 1, 0, 0] bodyk9) annk9_4 (fun e st => loopEnd (l := lk9_4) (outs := ok9_4) e st) (lk9_4.enc s) = stepk9_4 s := by
  rintro ⟨t3, t13, t17, r1, r2⟩
  kernel_rfl
theorem okk9_4 : LOk Go.Proofs.Try.prog 144 (cutEnt lk9_4 ok9_4 (loopO stepk9_4)) (Code.at' [1, 1, 0, 1, 0, 0, 1, 1, 0, 0, 1, 1, 1, 1, 1, 1, 0, 1, 0] bodyk9) := by
  have e : Code.at' [1, 1, 0, 1, 0, 0, 1, 1, 0, 0, 1, 1, 1, 1, 1, 1, 0, 1, 0] bodyk9 = .loop (Code.at' [1, 1, 0, 1, 0, 0, 1, 1, 0, 0, 1, 1, 1, 1, 1, 1, 0, 1, 0, 0] bodyk9) := by kernel_rfl
  rw [e]
  refine loop_ok ck9 144 rfl rfl (annOk_of_cuts ?_) eqk9_4
  have hc : Ann.cuts annk9_4 = [([1, 0, 0, 1, 1, 0], (cutEnt lk9_5 ok9_5 (loopO (stepk9_5))))] := by kernel_rfl
  rw [hc]
  intro x hx
  simp only [List.mem_cons, List.not_mem_nil, or_false] at hx
  rcases hx with rfl
  · have e : Code.at' [1, 0, 0, 1, 1, 0] (Code.at' [1, 1, 0, 1, 0, 0, 1, 1, 0, 0, 1, 1, 1, 1, 1, 1, 0, 1, 0, 0] bodyk9) = Code.at' [1, 1, 0, 1, 0, 0, 1, 1, 0, 0, 1, 1, 1, 1, 1, 1, 0, 1, 0, 0, 1, 0, 0, 1, 1, 0] bodyk9 := by kernel_rfl
    rw [e]; exact okk9_5

theorem eqk9_6 : ∀ s : lk9_6.T, exec ktab (ofL Ek26) 144 (Code.at' [1, 1, 0, 1, 0, 0, 1, 1, 0, 0, 1, 1, 1, 1, 1, 1, 1, 1, 0, 0] bodyk9) annk9_6 (fun e st => loopEnd (l := lk9_6) (outs := ok9_6) e st) (lk9_6.enc s) = stepk9_6 s := by
  rintro ⟨t3, t17, t121, r1, r2⟩
  kernel_rfl
theorem okk9_6 : LOk Go.Proofs.Try.prog 144 (cutEnt lk9_6 ok9_6 (loopO stepk9_6)) (Code.at' [1, 1, 0, 1, 0, 0, 1, 1, 0, 0, 1, 1, 1, 1, 1, 1, 1, 1, 0] bodyk9) := by
  have e : Code.at' [1, 1, 0, 1, 0, 0, 1, 1, 0, 0, 1, 1, 1, 1, 1, 1, 1, 1, 0] bodyk9 = .loop (Code.at' [1, 1, 0, 1, 0, 0, 1, 1, 0, 0, 1, 1, 1, 1, 1, 1, 1, 1, 0, 0] bodyk9) := by kernel_rfl
  rw [e]
  refine loop_ok ck9 144 rfl rfl (annOk_of_cuts ?_) eqk9_6
  intro x hx
  exact absurd hx (by show x ∉ ([] : List (List Nat × LEnt)); simp)

theorem eqk9_0 : ∀ s : lk9_0.T, exec ktab (ofL Ek26) 144 (Code.at' [1, 1, 0, 1, 0, 0] bodyk9) annk9_0 (fun e st => loopEnd (l := lk9_0) (outs := ok9_0) e st) (lk9_0.enc s) = stepk9_0 s := by
  rintro ⟨t3, t17, r1, r2⟩
  kernel_rfl
theorem okk9_0 : LOk Go.Proofs.Try.prog 144 (cutEnt lk9_0 ok9_0 (loopO stepk9_0)) (Code.at' [1, 1, 0, 1, 0] bodyk9) := by
  have e : Code.at' [1, 1, 0, 1, 0] bodyk9 = .loop (Code.at' [1, 1, 0, 1, 0, 0] bodyk9) := by kernel_rfl
  rw [e]
  refine loop_ok ck9 144 rfl rfl (annOk_of_cuts ?_) eqk9_0
  have hc : Ann.cuts annk9_0 = [([1, 1, 0, 0, 1, 0, 1, 0], (cutEnt lk9_1 ok9_1 (loopO (stepk9_1)))), ([1, 1, 0, 0, 1, 1, 0, 1, 0], (cutEnt lk9_2 ok9_2 (loopO (stepk9_2)))), ([1, 1, 0, 0, 1, 1, 1, 1, 1, 0, 1, 0], (cutEnt lk9_3 ok9_3 (loopO (stepk9_3)))), ([1, 1, 0, 0, 1, 1, 1, 1, 1, 1, 0, 1, 0], (cutEnt lk9_4 ok9_4 (loopO (stepk9_4)))), ([1, 1, 0, 0, 1, 1, 1, 1, 1, 1, 1, 1, 0], (cutEnt lk9_6 ok9_6 (loopO (stepk9_6))))] := by kernel_rfl
  rw [hc]
  intro x hx
  simp only [List.mem_cons, List.not_mem_nil, or_false] at hx
  rcases hx with rfl | rfl | rfl | rfl | rfl
  · have e : Code.at' [1, 1, 0, 0, 1, 0, 1, 0] (Code.at' [1, 1, 0, 1, 0, 0] bodyk9) = Code.at' [1, 1, 0, 1, 0, 0, 1, 1, 0, 0, 1, 0, 1, 0] bodyk9 := by kernel_rfl
    rw [e]; exact okk9_1
  · have e : Code.at' [1, 1, 0, 0, 1, 1, 0, 1, 0] (Code.at' [1, 1, 0, 1, 0, 0] bodyk9) = Code.at' [1, 1, 0, 1, 0, 0, 1, 1, 0, 0, 1, 1, 0, 1, 0] bodyk9 := by kernel_rfl
    rw [e]; exact okk9_2
  · have e : Code.at' [1, 1, 0, 0, 1, 1, 1, 1, 1, 0, 1, 0] (Code.at' [1, 1, 0, 1, 0, 0] bodyk9) = Code.at' [1, 1, 0, 1, 0, 0, 1, 1, 0, 0, 1, 1, 1, 1, 1, 0, 1, 0] bodyk9 := by kernel_rfl
    rw [e]; exact okk9_3
  · have e : Code.at' [1, 1, 0, 0, 1, 1, 1, 1, 1, 1, 0, 1, 0] (Code.at' [1, 1, 0, 1, 0, 0] bodyk9) = Code.at' [1, 1, 0, 1, 0, 0, 1, 1, 0, 0, 1, 1, 1, 1, 1, 1, 0, 1, 0] bodyk9 := by kernel_rfl
    rw [e]; exact okk9_4
  · have e : Code.at' [1, 1, 0, 0, 1, 1, 1, 1, 1, 1, 1, 1, 0] (Code.at' [1, 1, 0, 1, 0, 0] bodyk9) = Code.at' [1, 1, 0, 1, 0, 0, 1, 1, 0, 0, 1, 1, 1, 1, 1, 1, 1, 1, 0] bodyk9 := by kernel_rfl
    rw [e]; exact okk9_6

theorem eqk9 : ∀ x : Sk9.inT, exec ktab (ofL Ek26) 144 bodyk9 annk9 (finL ktab Sk9) (Sk9.inp.enc x) = Fk9 x := by
  intro x
  kernel_rfl
theorem callsk9 : CallsL Go.Proofs.Try.prog 9 Sk9 Fk9 := by
  refine fun_callsL (fn := Go.Proofs.Try.f9) (c := bodyk9) (ann := annk9) ck9 (by kernel_rfl) (by kernel_rfl) (by kernel_rfl) (by kernel_rfl) (by kernel_rfl) (annOk_of_cuts ?_) eqk9
  have hc : Ann.cuts annk9 = [([1, 1, 0, 1, 0], (cutEnt lk9_0 ok9_0 (loopO (stepk9_0))))] := by kernel_rfl
  rw [hc]
  intro x hx
  simp only [List.mem_cons, List.not_mem_nil, or_false] at hx
  rcases hx with rfl
  · have e : Code.at' [1, 1, 0, 1, 0] bodyk9 = Code.at' [1, 1, 0, 1, 0] bodyk9 := by kernel_rfl
    rw [e]; exact okk9_0

theorem entk9 : EntOk Go.Proofs.Try.prog 9 (funEntL Sk9 true Fk9) := fun_okL (fn := Go.Proofs.Try.f9) (c := bodyk9) (by kernel_rfl) (by kernel_rfl) (by kernel_rfl) (by kernel_rfl) callsk9
noncomputable def Ek9 : List (Nat × Ent) := (9, funEntL Sk9 true Fk9) :: Ek26
theorem Ek9_ok : EntsOk Go.Proofs.Try.prog (ofL Ek9) := .cons entk9 Ek26_ok

/-! ### (*barbican/keccak.Sponge).Write -/
noncomputable def bodyk12 : Code := (Go.Proofs.Try.f12.body).getD .skip
abbrev Sk12 : FL := ⟨⟨[(0, .ptr 1000000 0 29)], [.reg 1000000 (.cells [.int .i64, .ints .u64 25, .int .i64, .bool, .int .i64]), .env 1 (.c (.fz (.int .u8)))], [(1000000, .env 0 0)]⟩, 2, [(.ret, ⟨[], [.env 0 (.c (.int .i64)), .reg 1000000 (.cells [.int .i64, .ints .u64 25, .int .i64, .bool, .int .i64])], []⟩)], [.tmp 4], false⟩
noncomputable def ck12 : Ctx Go.Proofs.Try.prog := ⟨ktab, ofL Ek9, ktabOk, Ek9_ok, kdep, kord⟩
abbrev lk12_0 : Lay := ⟨[(0, .ptr 1000000 0 29)], [.env 15 (.c (.fz (.int .u8))), .env 16 (.c (.int .i64)), .env 17 (.c (.int .i64)), .reg 1000000 (.cells [.int .i64, .ints .u64 25, .int .i64, .bool, .int .i64])], []⟩
abbrev ok12_0 : List (AExit × Lay) := [(.exit 1, ⟨[], [.reg 1000000 (.cells [.int .i64, .ints .u64 25, .int .i64, .bool, .int .i64])], []⟩)]
noncomputable def stepk12_0 : (List Int) × Int × Int × (Int × (Nat → Int) × Int × Bool × Int) → Option (((List Int) × Int × Int × (Int × (Nat → Int) × Int × Bool × Int)) ⊕ ((Int × (Nat → Int) × Int × Bool × Int)))
  | (t15, t16, t17, r1000000) =>
    if (decide (t17 < t16)) = true then
      if (0 : Int) ≤ t17 ∧ t17 < (t15.length : Int) then
        (Fk30 ((r1000000.1, r1000000.2.1, r1000000.2.2.1, r1000000.2.2.2.1, r1000000.2.2.2.2), r1000000.2.2.1, (t15.getD t17.toNat 0))).bind fun y1 =>
          if 0 ≤ y1.1 ∧ y1.1 < (kstr1.size : Int) then
            let x2 : Bool := ((IntKind.i64.wrap (y1.2.2.1 + 1)) == (IntKind.i64.wrap (strAt kstr1 y1.1)))
            if x2 = true then
              (Fk9 y1.2.1).bind fun y3 =>
                some (.inl (t15, t16, (IntKind.i64.wrap (t17 + 1)), (y1.1, y3, 0, y1.2.2.2.1, y1.2.2.2.2)))
            else
              some (.inl (t15, t16, (IntKind.i64.wrap (t17 + 1)), (y1.1, y1.2.1, (IntKind.i64.wrap (y1.2.2.1 + 1)), y1.2.2.2.1, y1.2.2.2.2)))
          else none
      else none
    else
      some (.inr (r1000000.1, r1000000.2.1, r1000000.2.2.1, r1000000.2.2.2.1, r1000000.2.2.2.2))

noncomputable def annk12_0 : Ann := .none
noncomputable def Fk12 : (Int × (Nat → Int) × Int × Bool × Int) × (List Int) → Option ((Int × (Int × (Nat → Int) × Int × Bool × Int)))
  | (io, a1) =>
    if io.2.2.2.1 = true then
      some (32, (io.1, io.2.1, io.2.2.1, io.2.2.2.1, io.2.2.2.2))
    else
      (loopO stepk12_0 (a1, (a1.length : Int), 0, (io.1, io.2.1, io.2.2.1, io.2.2.2.1, io.2.2.2.2))).bind fun z4 =>
        some (0, (z4.1, z4.2.1, z4.2.2.1, z4.2.2.2.1, z4.2.2.2.2))

noncomputable def annk12 : Ann := (.seq .none (.seq .none (.seq (.seq .none (.seq (.cut (cutEnt lk12_0 ok12_0 (loopO (stepk12_0)))) .none)) .none)))
theorem eqk12_0 : ∀ s : lk12_0.T, exec ktab (ofL Ek9) 58 (Code.at' [1, 1, 0, 1, 0, 0] bodyk12) annk12_0 (fun e st => loopEnd (l := lk12_0) (outs := ok12_0) e st) (lk12_0.enc s) = stepk12_0 s := by
  rintro ⟨t15, t16, t17, r1000000⟩
  kernel_rfl
theorem okk12_0 : LOk Go.Proofs.Try.prog 58 (cutEnt lk12_0 ok12_0 (loopO stepk12_0)) (Code.at' [1, 1, 0, 1, 0] bodyk12) := by
  have e : Code.at' [1, 1, 0, 1, 0] bodyk12 = .loop (Code.at' [1, 1, 0, 1, 0, 0] bodyk12) := by kernel_rfl
  rw [e]
  refine loop_ok ck12 58 rfl rfl (annOk_of_cuts ?_) eqk12_0
  intro x hx
  exact absurd hx (by show x ∉ ([] : List (List Nat × LEnt)); simp)

theorem eqk12 : ∀ x : Sk12.inT, exec ktab (ofL Ek9) 58 bodyk12 annk12 (finL ktab Sk12) (Sk12.inp.enc x) = Fk12 x := by
  rintro ⟨io, a1⟩
  kernel_rfl
theorem callsk12 : CallsL Go.Proofs.Try.prog 12 Sk12 Fk12 := by
  refine fun_callsL (fn := Go.Proofs.Try.f12) (c := bodyk12) (ann := annk12) ck12 (by kernel_rfl) (by kernel_rfl) (by kernel_rfl) (by kernel_rfl) (by kernel_rfl) (annOk_of_cuts ?_) eqk12
  have hc : Ann.cuts annk12 = [([1, 1, 0, 1, 0], (cutEnt lk12_0 ok12_0 (loopO (stepk12_0))))] := by kernel_rfl
  rw [hc]
  intro x hx
  simp only [List.mem_cons, List.not_mem_nil, or_false] at hx
  rcases hx with rfl
  · have e : Code.at' [1, 1, 0, 1, 0] bodyk12 = Code.at' [1, 1, 0, 1, 0] bodyk12 := by kernel_rfl
    rw [e]; exact okk12_0

theorem entk12 : EntOk Go.Proofs.Try.prog 12 (funEntL Sk12 true Fk12) := fun_okL (fn := Go.Proofs.Try.f12) (c := bodyk12) (by kernel_rfl) (by kernel_rfl) (by kernel_rfl) (by kernel_rfl) callsk12
noncomputable def Ek12 : List (Nat × Ent) := (12, funEntL Sk12 true Fk12) :: Ek9
theorem Ek12_ok : EntsOk Go.Proofs.Try.prog (ofL Ek12) := .cons entk12 Ek9_ok

/-! ### (*barbican/keccak.Sponge).Read -/
noncomputable def bodyk13 : Code := (Go.Proofs.Try.f13.body).getD .skip
abbrev Sk13 : FL := ⟨⟨[(0, .ptr 1000000 0 29)], [.reg 1000000 (.cells [.int .i64, .ints .u64 25, .int .i64, .bool, .int .i64]), .env 1 (.c (.int .i64))], [(1000000, .env 0 0)]⟩, 2, [(.ret, ⟨[(0, .full 1)], [.reg 1 (.row 5 .u8), .env 1 (.c (.int .i64)), .reg 1000000 (.cells [.int .i64, .ints .u64 25, .int .i64, .bool, .int .i64])], [(1, .env 0 0)]⟩)], [.tmp 4, .tmp 5], false⟩
noncomputable def ck13 : Ctx Go.Proofs.Try.prog := ⟨ktab, ofL Ek12, ktabOk, Ek12_ok, kdep, kord⟩
abbrev lk13_0 : Lay := ⟨[(0, .ptr 1000000 0 29), (7, .full 75)], [.env 1 (.c (.int .i64)), .env 6 (.c (.int .i64)), .env 77 (.c (.int .i64)), .env 78 (.c (.int .i64)), .reg 1000000 (.cells [.int .i64, .ints .u64 25, .int .i64, .bool, .int .i64]), .reg 75 (.row 5 .u8)], [(75, .env 7 0)]⟩
abbrev ok13_0 : List (AExit × Lay) := [(.exit 1, ⟨[(0, .ptr 1000000 0 29), (7, .full 75)], [.env 1 (.c (.int .i64)), .reg 1000000 (.cells [.int .i64, .ints .u64 25, .int .i64, .bool, .int .i64]), .reg 75 (.row 5 .u8)], [(75, .env 7 0)]⟩)]
noncomputable def stepk13_0 : Int × Int × Int × Int × (Int × (Nat → Int) × Int × Bool × Int) × List Int → Option ((Int × Int × Int × Int × (Int × (Nat → Int) × Int × Bool × Int) × List Int) ⊕ ((Int × (Int × (Nat → Int) × Int × Bool × Int) × List Int)))
  | (t1, t6, t77, t78, r1000000, r75) =>
    if (decide (t78 < t77)) = true then
      if (r1000000.2.2.1 == t6) = true then
        (Fk9 r1000000.2.1).bind fun y5 =>
          if (0 : Int) ≤ (IntKind.i64.wrap ((0 : Int).tdiv 8)) ∧ (IntKind.i64.wrap ((0 : Int).tdiv 8)) < ((25 : Int) : Int) then
            if 0 ≤ (IntKind.i64.wrap (8 * ((0 : Int).tmod 8))) then
              let x6 : Int := (shrI .u64 (y5 (IntKind.i64.wrap ((0 : Int).tdiv 8)).toNat) (IntKind.i64.wrap (8 * ((0 : Int).tmod 8))))
              if (0 : Int) ≤ t78 ∧ t78 < (r75.length : Int) then
                some (.inl (t1, t6, t77, (IntKind.i64.wrap (t78 + 1)), (r1000000.1, y5, 1, r1000000.2.2.2.1, r1000000.2.2.2.2), (r75.set t78.toNat (IntKind.u8.wrap x6))))
              else none
            else none
          else none
      else
        if (0 : Int) ≤ (IntKind.i64.wrap (r1000000.2.2.1.tdiv 8)) ∧ (IntKind.i64.wrap (r1000000.2.2.1.tdiv 8)) < ((25 : Int) : Int) then
          let x7 : Int := (r1000000.2.1 (IntKind.i64.wrap (r1000000.2.2.1.tdiv 8)).toNat)
          if 0 ≤ (IntKind.i64.wrap (8 * (r1000000.2.2.1.tmod 8))) then
            let x8 : Int := (shrI .u64 x7 (IntKind.i64.wrap (8 * (r1000000.2.2.1.tmod 8))))
            if (0 : Int) ≤ t78 ∧ t78 < (r75.length : Int) then
              some (.inl (t1, t6, t77, (IntKind.i64.wrap (t78 + 1)), (r1000000.1, r1000000.2.1, (IntKind.i64.wrap (r1000000.2.2.1 + 1)), r1000000.2.2.2.1, r1000000.2.2.2.2), (r75.set t78.toNat (IntKind.u8.wrap x8))))
            else none
          else none
        else none
    else
      some (.inr (t1, (r1000000.1, r1000000.2.1, r1000000.2.2.1, r1000000.2.2.2.1, r1000000.2.2.2.2), r75))

noncomputable def annk13_0 : Ann := .none
noncomputable def Fk13 : (Int × (Nat → Int) × Int × Bool × Int) × Int → Option ((List Int × Int × (Int × (Nat → Int) × Int × Bool × Int)))
  | (io, a1) =>
    if (decide (a1 < 0)) = false then
      if (decide (a1 > 65536)) = true then
        some (([] : List Int), 1, (io.1, io.2.1, io.2.2.1, io.2.2.2.1, io.2.2.2.2))
      else
        if (decide (io.2.2.2.2 ≥ 0)) = true then
          if (decide (a1 > io.2.2.2.2)) = true then
            some (([] : List Int), 33, (io.1, io.2.1, io.2.2.1, io.2.2.2.1, io.2.2.2.2))
          else
            if 0 ≤ io.1 ∧ io.1 < (kstr1.size : Int) then
              if (!io.2.2.2.1) = true then
                if 0 ≤ io.1 ∧ io.1 < (kstr2.size : Int) then
                  (Fk30 ((io.1, io.2.1, io.2.2.1, io.2.2.2.1, io.2.2.2.2), io.2.2.1, (strAt kstr2 io.1))).bind fun y1 =>
                    let x2 : Int := (IntKind.i64.wrap ((IntKind.i64.wrap (strAt kstr1 io.1)) - 1))
                    (Fk30 ((y1.1, y1.2.1, y1.2.2.1, y1.2.2.2.1, y1.2.2.2.2), x2, 128)).bind fun y3 =>
                      (Fk9 y3.2.1).bind fun y4 =>
                        if 0 ≤ a1 ∧ a1 ≤ a1 ∧ okBytes a1.toNat 1 then
                          (loopO stepk13_0 (a1, (IntKind.i64.wrap (strAt kstr1 io.1)), ((List.replicate a1.toNat (0 : Int)).length : Int), 0, (y3.1, y4, 0, true, y3.2.2.2.2), (List.replicate a1.toNat (0 : Int)))).bind fun (z9, z10, z11) =>
                            if (decide (z10.2.2.2.2 ≥ 0)) = true then
                              some (z11, 0, (z10.1, z10.2.1, z10.2.2.1, z10.2.2.2.1, (IntKind.i64.wrap (z10.2.2.2.2 - z9))))
                            else
                              some (z11, 0, (z10.1, z10.2.1, z10.2.2.1, z10.2.2.2.1, z10.2.2.2.2))
                        else none
                else none
              else
                if 0 ≤ a1 ∧ a1 ≤ a1 ∧ okBytes a1.toNat 1 then
                  (loopO stepk13_0 (a1, (IntKind.i64.wrap (strAt kstr1 io.1)), ((List.replicate a1.toNat (0 : Int)).length : Int), 0, (io.1, io.2.1, io.2.2.1, io.2.2.2.1, io.2.2.2.2), (List.replicate a1.toNat (0 : Int)))).bind fun (z12, z13, z14) =>
                    if (decide (z13.2.2.2.2 ≥ 0)) = true then
                      some (z14, 0, (z13.1, z13.2.1, z13.2.2.1, z13.2.2.2.1, (IntKind.i64.wrap (z13.2.2.2.2 - z12))))
                    else
                      some (z14, 0, (z13.1, z13.2.1, z13.2.2.1, z13.2.2.2.1, z13.2.2.2.2))
                else none
            else none
        else
          if 0 ≤ io.1 ∧ io.1 < (kstr1.size : Int) then
            if (!io.2.2.2.1) = true then
              if 0 ≤ io.1 ∧ io.1 < (kstr2.size : Int) then
                (Fk30 ((io.1, io.2.1, io.2.2.1, io.2.2.2.1, io.2.2.2.2), io.2.2.1, (strAt kstr2 io.1))).bind fun y15 =>
                  let x16 : Int := (IntKind.i64.wrap ((IntKind.i64.wrap (strAt kstr1 io.1)) - 1))
                  (Fk30 ((y15.1, y15.2.1, y15.2.2.1, y15.2.2.2.1, y15.2.2.2.2), x16, 128)).bind fun y17 =>
                    (Fk9 y17.2.1).bind fun y18 =>
                      if 0 ≤ a1 ∧ a1 ≤ a1 ∧ okBytes a1.toNat 1 then
                        (loopO stepk13_0 (a1, (IntKind.i64.wrap (strAt kstr1 io.1)), ((List.replicate a1.toNat (0 : Int)).length : Int), 0, (y17.1, y18, 0, true, y17.2.2.2.2), (List.replicate a1.toNat (0 : Int)))).bind fun (z19, z20, z21) =>
                          if (decide (z20.2.2.2.2 ≥ 0)) = true then
                            some (z21, 0, (z20.1, z20.2.1, z20.2.2.1, z20.2.2.2.1, (IntKind.i64.wrap (z20.2.2.2.2 - z19))))
                          else
                            some (z21, 0, (z20.1, z20.2.1, z20.2.2.1, z20.2.2.2.1, z20.2.2.2.2))
                      else none
              else none
            else
              if 0 ≤ a1 ∧ a1 ≤ a1 ∧ okBytes a1.toNat 1 then
                (loopO stepk13_0 (a1, (IntKind.i64.wrap (strAt kstr1 io.1)), ((List.replicate a1.toNat (0 : Int)).length : Int), 0, (io.1, io.2.1, io.2.2.1, io.2.2.2.1, io.2.2.2.2), (List.replicate a1.toNat (0 : Int)))).bind fun (z22, z23, z24) =>
                  if (decide (z23.2.2.2.2 ≥ 0)) = true then
                    some (z24, 0, (z23.1, z23.2.1, z23.2.2.1, z23.2.2.2.1, (IntKind.i64.wrap (z23.2.2.2.2 - z22))))
                  else
                    some (z24, 0, (z23.1, z23.2.1, z23.2.2.1, z23.2.2.2.1, z23.2.2.2.2))
              else none
          else none
    else
      some (([] : List Int), 1, (io.1, io.2.1, io.2.2.1, io.2.2.2.1, io.2.2.2.2))

noncomputable def annk13 : Ann := (.seq .none (.seq .none (.seq .none (.seq .none (.seq .none (.seq (.seq .none (.seq (.cut (cutEnt lk13_0 ok13_0 (loopO (stepk13_0)))) .none)) .none))))))
theorem eqk13_0 : ∀ s : lk13_0.T, exec ktab (ofL Ek12) 141 (Code.at' [1, 1, 1, 1, 1, 0, 1, 0, 0] bodyk13) annk13_0 (fun e st => loopEnd (l := lk13_0) (outs := ok13_0) e st) (lk13_0.enc s) = stepk13_0 s := by
  rintro ⟨t1, t6, t77, t78, r1000000, r75⟩
  kernel_rfl
theorem okk13_0 : LOk Go.Proofs.Try.prog 141 (cutEnt lk13_0 ok13_0 (loopO stepk13_0)) (Code.at' [1, 1, 1, 1, 1, 0, 1, 0] bodyk13) := by
  have e : Code.at' [1, 1, 1, 1, 1, 0, 1, 0] bodyk13 = .loop (Code.at' [1, 1, 1, 1, 1, 0, 1, 0, 0] bodyk13) := by kernel_rfl
  rw [e]
  refine loop_ok ck13 141 rfl rfl (annOk_of_cuts ?_) eqk13_0
  intro x hx
  exact absurd hx (by show x ∉ ([] : List (List Nat × LEnt)); simp)

theorem eqk13 : ∀ x : Sk13.inT, exec ktab (ofL Ek12) 141 bodyk13 annk13 (finL ktab Sk13) (Sk13.inp.enc x) = Fk13 x := by
  rintro ⟨io, a1⟩
  kernel_rfl
theorem callsk13 : CallsL Go.Proofs.Try.prog 13 Sk13 Fk13 := by
  refine fun_callsL (fn := Go.Proofs.Try.f13) (c := bodyk13) (ann := annk13) ck13 (by kernel_rfl) (by kernel_rfl) (by kernel_rfl) (by kernel_rfl) (by kernel_rfl) (annOk_of_cuts ?_) eqk13
  have hc : Ann.cuts annk13 = [([1, 1, 1, 1, 1, 0, 1, 0], (cutEnt lk13_0 ok13_0 (loopO (stepk13_0))))] := by kernel_rfl
  rw [hc]
  intro x hx
  simp only [List.mem_cons, List.not_mem_nil, or_false] at hx
  rcases hx with rfl
  · have e : Code.at' [1, 1, 1, 1, 1, 0, 1, 0] bodyk13 = Code.at' [1, 1, 1, 1, 1, 0, 1, 0] bodyk13 := by kernel_rfl
    rw [e]; exact okk13_0

theorem entk13 : EntOk Go.Proofs.Try.prog 13 (funEntL Sk13 true Fk13) := fun_okL (fn := Go.Proofs.Try.f13) (c := bodyk13) (by kernel_rfl) (by kernel_rfl) (by kernel_rfl) (by kernel_rfl) callsk13
noncomputable def Ek13 : List (Nat × Ent) := (13, funEntL Sk13 true Fk13) :: Ek12
theorem Ek13_ok : EntsOk Go.Proofs.Try.prog (ofL Ek13) := .cons entk13 Ek12_ok

/-! ### barbican/keccak.all -/
noncomputable def bodyk31 : Code := (Go.Proofs.Try.f31.body).getD .skip
abbrev Sk31 : FL := ⟨⟨[], [.env 0 (.c (.int .i64)), .env 1 (.c (.fz (.int .u8))), .env 2 (.c (.int .i64))], []⟩, 3, [(.ret, ⟨[(0, .full 1)], [.reg 1 (.row 5 .u8)], [(1, .env 0 0)]⟩)], [.tmp 6], false⟩
noncomputable def ck31 : Ctx Go.Proofs.Try.prog := ⟨ktab, ofL Ek13, ktabOk, Ek13_ok, kdep, kord⟩
noncomputable def Fk31 : Int × (List Int) × Int → Option ((List Int))
  | (a0, a1, a2) =>
    (Fk11 a0).bind fun
      | (.inl (y1, y2)) =>
        (Fk12 ((y1.1, y1.2.1, y1.2.2.1, y1.2.2.2.1, y1.2.2.2.2), a1)).bind fun (y3, y4) =>
          (Fk13 ((y4.1, y4.2.1, y4.2.2.1, y4.2.2.2.1, y4.2.2.2.2), a2)).bind fun (y5, y6, y7) =>
            some y5
      | (.inr y8) =>
        none

noncomputable def annk31 : Ann := .none
theorem eqk31 : ∀ x : Sk31.inT, exec ktab (ofL Ek13) 26 bodyk31 annk31 (finL ktab Sk31) (Sk31.inp.enc x) = Fk31 x := by
  rintro ⟨a0, a1, a2⟩
  kernel_rfl
theorem callsk31 : CallsL Go.Proofs.Try.prog 31 Sk31 Fk31 := by
  refine fun_callsL (fn := Go.Proofs.Try.f31) (c := bodyk31) (ann := annk31) ck31 (by kernel_rfl) (by kernel_rfl) (by kernel_rfl) (by kernel_rfl) (by kernel_rfl) (annOk_of_cuts ?_) eqk31
  intro x hx
  exact absurd hx (by show x ∉ ([] : List (List Nat × LEnt)); simp)

theorem entk31 : EntOk Go.Proofs.Try.prog 31 (funEntL Sk31 true Fk31) := fun_okL (fn := Go.Proofs.Try.f31) (c := bodyk31) (by kernel_rfl) (by kernel_rfl) (by kernel_rfl) (by kernel_rfl) callsk31
noncomputable def Ek31 : List (Nat × Ent) := (31, funEntL Sk31 true Fk31) :: Ek13
theorem Ek31_ok : EntsOk Go.Proofs.Try.prog (ofL Ek31) := .cons entk31 Ek13_ok

/-! ### barbican/keccak.Sum256 -/
noncomputable def bodyk17 : Code := (Go.Proofs.Try.f17.body).getD .skip
abbrev Sk17 : FL := ⟨⟨[], [.env 0 (.c (.fz (.int .u8)))], []⟩, 1, [(.ret, ⟨[], [.env 0 (.agg [.ints .u8 32])], []⟩)], [.cell 2 41], false⟩
noncomputable def ck17 : Ctx Go.Proofs.Try.prog := ⟨ktab, ofL Ek31, ktabOk, Ek31_ok, kdep, kord⟩
noncomputable def Fk17 : (List Int) → Option (((Nat → Int)))
  | a0 =>
    (Fk31 (1, a0, 32)).bind fun y1 =>
      if (32 : Int) ≤ (y1.length : Int) then
        some (fun j => y1.getD (0 + j) 0)
      else none

noncomputable def annk17 : Ann := .none
theorem eqk17 : ∀ x : Sk17.inT, exec ktab (ofL Ek31) 7 bodyk17 annk17 (finL ktab Sk17) (Sk17.inp.enc x) = Fk17 x := by
  intro x
  kernel_rfl
theorem callsk17 : CallsL Go.Proofs.Try.prog 17 Sk17 Fk17 := by
  refine fun_callsL (fn := Go.Proofs.Try.f17) (c := bodyk17) (ann := annk17) ck17 (by kernel_rfl) (by kernel_rfl) (by kernel_rfl) (by kernel_rfl) (by kernel_rfl) (annOk_of_cuts ?_) eqk17
  intro x hx
  exact absurd hx (by show x ∉ ([] : List (List Nat × LEnt)); simp)

theorem entk17 : EntOk Go.Proofs.Try.prog 17 (funEntL Sk17 true Fk17) := fun_okL (fn := Go.Proofs.Try.f17) (c := bodyk17) (by kernel_rfl) (by kernel_rfl) (by kernel_rfl) (by kernel_rfl) callsk17
noncomputable def Ek17 : List (Nat × Ent) := (17, funEntL Sk17 true Fk17) :: Ek31
theorem Ek17_ok : EntsOk Go.Proofs.Try.prog (ofL Ek17) := .cons entk17 Ek31_ok

/-! ### barbican/barbicanlaw03.awake -/
noncomputable def bodyk8 : Code := (Go.Proofs.Try.f8.body).getD .skip
abbrev Sk8 : FL := ⟨⟨[], [], []⟩, 0, [(.ret, ⟨[], [.env 0 (.c (.bool))], []⟩)], [.tmp 0], false⟩
noncomputable def ck8 : Ctx Go.Proofs.Try.prog := ⟨ktab, ofL Ek17, ktabOk, Ek17_ok, kdep, kord⟩
noncomputable def Fk8 : Unit → Option ((Bool))
  | _ =>
    (Fk17 ([] : List Int)).bind fun y1 =>
      if ((y1 0) == 167) = true then
        if ((y1 1) == 255) = true then
          some ((y1 2) == 198)
        else
          some false
      else
        some false

noncomputable def annk8 : Ann := .none
theorem eqk8 : ∀ x : Sk8.inT, exec ktab (ofL Ek17) 16 bodyk8 annk8 (finL ktab Sk8) (Sk8.inp.enc x) = Fk8 x := by
  intro x
  kernel_rfl
theorem callsk8 : CallsL Go.Proofs.Try.prog 8 Sk8 Fk8 := by
  refine fun_callsL (fn := Go.Proofs.Try.f8) (c := bodyk8) (ann := annk8) ck8 (by kernel_rfl) (by kernel_rfl) (by kernel_rfl) (by kernel_rfl) (by kernel_rfl) (annOk_of_cuts ?_) eqk8
  intro x hx
  exact absurd hx (by show x ∉ ([] : List (List Nat × LEnt)); simp)

theorem entk8 : EntOk Go.Proofs.Try.prog 8 (funEntL Sk8 true Fk8) := fun_okL (fn := Go.Proofs.Try.f8) (c := bodyk8) (by kernel_rfl) (by kernel_rfl) (by kernel_rfl) (by kernel_rfl) callsk8
noncomputable def Ek8 : List (Nat × Ent) := (8, funEntL Sk8 true Fk8) :: Ek17
theorem Ek8_ok : EntsOk Go.Proofs.Try.prog (ofL Ek8) := .cons entk8 Ek17_ok

/-! ### barbican/barbicanref03.offsets -/
noncomputable def bodyk27 : Code := (Go.Proofs.Try.f27.body).getD .skip
abbrev Sk27 : FL := ⟨⟨[], [], []⟩, 0, [(.ret, ⟨[], [.env 0 (.agg [.ints .i64 25])], []⟩)], [.cell 0 65], false⟩
noncomputable def ck27 : Ctx Go.Proofs.Try.prog := ⟨ktab, ofL Ek8, ktabOk, Ek8_ok, kdep, kord⟩
abbrev lk27_0 : Lay := ⟨[(0, .ptr 0 0 25), (1, .ptr 1 0 25)], [.env 2 (.c (.int .i64)), .env 3 (.c (.int .i64)), .env 4 (.c (.int .i64)), .reg 0 (.cells [.ints .i64 25]), .reg 1 (.cells [.ints .i64 25])], [(0, .env 0 0), (1, .env 1 0)]⟩
abbrev ok27_0 : List (AExit × Lay) := [(.exit 0, ⟨[(0, .ptr 0 0 25), (1, .ptr 1 0 25)], [.reg 0 (.cells [.ints .i64 25]), .reg 1 (.cells [.ints .i64 25])], [(0, .env 0 0), (1, .env 1 0)]⟩)]
noncomputable def stepk27_0 : Int × Int × Int × (Nat → Int) × (Nat → Int) → Option ((Int × Int × Int × (Nat → Int) × (Nat → Int)) ⊕ (((Nat → Int) × (Nat → Int))))
  | (t2, t3, t4, r0, r1) =>
    if (decide (t4 < 24)) = true then
      let x1 : Int := (IntKind.i64.wrap ((IntKind.i64.wrap (t4 + 1)) * (IntKind.i64.wrap (t4 + 2))))
      if (0 : Int) ≤ (IntKind.i64.wrap (t2 + (IntKind.i64.wrap (5 * t3)))) ∧ (IntKind.i64.wrap (t2 + (IntKind.i64.wrap (5 * t3)))) < ((25 : Int) : Int) then
        let f2 : Nat → Int := (upd r1 (IntKind.i64.wrap (t2 + (IntKind.i64.wrap (5 * t3)))).toNat ((IntKind.i64.wrap (x1.tdiv 2)).tmod 64))
        let x3 : Int := (IntKind.i64.wrap ((IntKind.i64.wrap (2 * t2)) + (IntKind.i64.wrap (3 * t3))))
        some (.inl (t3, (x3.tmod 5), (IntKind.i64.wrap (t4 + 1)), r0, f2))
      else none
    else
      some (.inr (r0, r1))

noncomputable def annk27_0 : Ann := .none
noncomputable def Fk27 : Unit → Option (((Nat → Int)))
  | _ =>
    (loopO stepk27_0 (1, 0, 0, (fun _ => 0), (fun _ => 0))).bind fun (z4, z5) =>
      some z5

noncomputable def annk27 : Ann := (.seq .none (.seq .none (.seq .none (.seq .none (.seq (.seq .none (.seq (.cut (cutEnt lk27_0 ok27_0 (loopO (stepk27_0)))) .none)) .none)))))
theorem eqk27_0 : ∀ s : lk27_0.T, exec ktab (ofL Ek8) 31 (Code.at' [1, 1, 1, 1, 0, 1, 0, 0] bodyk27) annk27_0 (fun e st => loopEnd (l := lk27_0) (outs := ok27_0) e st) (lk27_0.enc s) = stepk27_0 s := by
  rintro ⟨t2, t3, t4, r0, r1⟩
  kernel_rfl
theorem okk27_0 : LOk Go.Proofs.Try.prog 31 (cutEnt lk27_0 ok27_0 (loopO stepk27_0)) (Code.at' [1, 1, 1, 1, 0, 1, 0] bodyk27) := by
  have e : Code.at' [1, 1, 1, 1, 0, 1, 0] bodyk27 = .loop (Code.at' [1, 1, 1, 1, 0, 1, 0, 0] bodyk27) := by kernel_rfl
  rw [e]
  refine loop_ok ck27 31 rfl rfl (annOk_of_cuts ?_) eqk27_0
  intro x hx
  exact absurd hx (by show x ∉ ([] : List (List Nat × LEnt)); simp)

theorem eqk27 : ∀ x : Sk27.inT, exec ktab (ofL Ek8) 31 bodyk27 annk27 (finL ktab Sk27) (Sk27.inp.enc x) = Fk27 x := by
  intro x
  kernel_rfl
theorem callsk27 : CallsL Go.Proofs.Try.prog 27 Sk27 Fk27 := by
  refine fun_callsL (fn := Go.Proofs.Try.f27) (c := bodyk27) (ann := annk27) ck27 (by kernel_rfl) (by kernel_rfl) (by kernel_rfl) (by kernel_rfl) (by kernel_rfl) (annOk_of_cuts ?_) eqk27
  have hc : Ann.cuts annk27 = [([1, 1, 1, 1, 0, 1, 0], (cutEnt lk27_0 ok27_0 (loopO (stepk27_0))))] := by kernel_rfl
  rw [hc]
  intro x hx
  simp only [List.mem_cons, List.not_mem_nil, or_false] at hx
  rcases hx with rfl
  · have e : Code.at' [1, 1, 1, 1, 0, 1, 0] bodyk27 = Code.at' [1, 1, 1, 1, 0, 1, 0] bodyk27 := by kernel_rfl
    rw [e]; exact okk27_0

theorem entk27 : EntOk Go.Proofs.Try.prog 27 (funEntL Sk27 true Fk27) := fun_okL (fn := Go.Proofs.Try.f27) (c := bodyk27) (by kernel_rfl) (by kernel_rfl) (by kernel_rfl) (by kernel_rfl) callsk27
noncomputable def Ek27 : List (Nat × Ent) := (27, funEntL Sk27 true Fk27) :: Ek8
theorem Ek27_ok : EntsOk Go.Proofs.Try.prog (ofL Ek27) := .cons entk27 Ek8_ok

/-! ### barbican/barbicanref03.constants -/
noncomputable def bodyk28 : Code := (Go.Proofs.Try.f28.body).getD .skip
abbrev Sk28 : FL := ⟨⟨[], [], []⟩, 0, [(.ret, ⟨[], [.env 0 (.agg [.ints .u64 24])], []⟩)], [.cell 0 67], false⟩
noncomputable def ck28 : Ctx Go.Proofs.Try.prog := ⟨ktab, ofL Ek27, ktabOk, Ek27_ok, kdep, kord⟩
abbrev lk28_1 : Lay := ⟨[(0, .ptr 0 0 24), (1, .ptr 1 0 24)], [.env 2 (.c (.int .i64)), .env 3 (.c (.int .i64)), .env 4 (.c (.int .i64)), .env 5 (.c (.int .i64)), .reg 0 (.cells [.ints .u64 24]), .reg 1 (.cells [.ints .u64 24])], [(0, .env 0 0), (1, .env 1 0)]⟩
abbrev ok28_1 : List (AExit × Lay) := [(.exit 2, ⟨[(0, .ptr 0 0 24), (1, .ptr 1 0 24)], [.env 2 (.c (.int .i64)), .env 3 (.c (.int .i64)), .reg 0 (.cells [.ints .u64 24]), .reg 1 (.cells [.ints .u64 24])], [(0, .env 0 0), (1, .env 1 0)]⟩)]
noncomputable def stepk28_1 : Int × Int × Int × Int × (Nat → Int) × (Nat → Int) → Option ((Int × Int × Int × Int × (Nat → Int) × (Nat → Int)) ⊕ ((Int × Int × (Nat → Int) × (Nat → Int))))
  | (t2, t3, t4, t5, r0, r1) =>
    if (decide (t5 < 7)) = true then
      if (0 : Int) ≤ t3 ∧ t3 < ((24 : Int) : Int) then
        if 0 ≤ (IntKind.u64.wrap (IntKind.i64.wrap (t4 - 1))) then
          let x1 : Int := (shlI .u64 (IntKind.u64.wrap (t2.tmod 2)) (IntKind.u64.wrap (IntKind.i64.wrap (t4 - 1))))
          if (0 : Int) ≤ t3 ∧ t3 < ((24 : Int) : Int) then
            if (decide ((IntKind.i64.wrap (2 * t2)) > 255)) = true then
              let x2 : Int := (bitsXor .i64 (IntKind.i64.wrap ((IntKind.i64.wrap (2 * t2)) - 256)) 113)
              some (.inl (x2, t3, (IntKind.i64.wrap (2 * t4)), (IntKind.i64.wrap (t5 + 1)), r0, (upd r1 t3.toNat (IntKind.u64.wrap ((r1 t3.toNat) + x1)))))
            else
              some (.inl ((IntKind.i64.wrap (2 * t2)), t3, (IntKind.i64.wrap (2 * t4)), (IntKind.i64.wrap (t5 + 1)), r0, (upd r1 t3.toNat (IntKind.u64.wrap ((r1 t3.toNat) + x1)))))
          else none
        else none
      else none
    else
      some (.inr (t2, t3, r0, r1))

noncomputable def annk28_1 : Ann := .none
abbrev lk28_0 : Lay := ⟨[(0, .ptr 0 0 24), (1, .ptr 1 0 24)], [.env 2 (.c (.int .i64)), .env 3 (.c (.int .i64)), .reg 0 (.cells [.ints .u64 24]), .reg 1 (.cells [.ints .u64 24])], [(0, .env 0 0), (1, .env 1 0)]⟩
abbrev ok28_0 : List (AExit × Lay) := [(.exit 0, ⟨[(0, .ptr 0 0 24), (1, .ptr 1 0 24)], [.reg 0 (.cells [.ints .u64 24]), .reg 1 (.cells [.ints .u64 24])], [(0, .env 0 0), (1, .env 1 0)]⟩)]
noncomputable def stepk28_0 : Int × Int × (Nat → Int) × (Nat → Int) → Option ((Int × Int × (Nat → Int) × (Nat → Int)) ⊕ (((Nat → Int) × (Nat → Int))))
  | (t2, t3, r0, r1) =>
    if (decide (t3 < 24)) = true then
      (loopO stepk28_1 (t2, t3, 1, 0, r0, r1)).bind fun (z3, z4, z5, z6) =>
        some (.inl (z3, (IntKind.i64.wrap (z4 + 1)), z5, z6))
    else
      some (.inr (r0, r1))

noncomputable def annk28_0 : Ann := (.seq .none (.seq (.seq (.seq .none (.seq .none (.seq (.cut (cutEnt lk28_1 ok28_1 (loopO (stepk28_1)))) .none))) .none) .none))
noncomputable def Fk28 : Unit → Option (((Nat → Int)))
  | _ =>
    (loopO stepk28_0 (1, 0, (fun _ => 0), (fun _ => 0))).bind fun (z7, z8) =>
      some z8

noncomputable def annk28 : Ann := (.seq .none (.seq .none (.seq .none (.seq (.seq .none (.seq (.cut (cutEnt lk28_0 ok28_0 (loopO (stepk28_0)))) .none)) .none))))
theorem eqk28_1 : ∀ s : lk28_1.T, exec ktab (ofL Ek27) 37 (Code.at' [1, 1, 1, 0, 1, 0, 0, 1, 0, 0, 1, 1, 0, 0] bodyk28) annk28_1 (fun e st => loopEnd (l := lk28_1) (outs := ok28_1) e st) (lk28_1.enc s) = stepk28_1 s := by
  rintro ⟨t2, t3, t4, t5, r0, r1⟩
  kernel_rfl
theorem okk28_1 : LOk Go.Proofs.Try.prog 37 (cutEnt lk28_1 ok28_1 (loopO stepk28_1)) (Code.at' [1, 1, 1, 0, 1, 0, 0, 1, 0, 0, 1, 1, 0] bodyk28) := by
  have e : Code.at' [1, 1, 1, 0, 1, 0, 0, 1, 0, 0, 1, 1, 0] bodyk28 = .loop (Code.at' [1, 1, 1, 0, 1, 0, 0, 1, 0, 0, 1, 1, 0, 0] bodyk28) := by kernel_rfl
  rw [e]
  refine loop_ok ck28 37 rfl rfl (annOk_of_cuts ?_) eqk28_1
  intro x hx
  exact absurd hx (by show x ∉ ([] : List (List Nat × LEnt)); simp)

theorem eqk28_0 : ∀ s : lk28_0.T, exec ktab (ofL Ek27) 37 (Code.at' [1, 1, 1, 0, 1, 0, 0] bodyk28) annk28_0 (fun e st => loopEnd (l := lk28_0) (outs := ok28_0) e st) (lk28_0.enc s) = stepk28_0 s := by
  rintro ⟨t2, t3, r0, r1⟩
  kernel_rfl
theorem okk28_0 : LOk Go.Proofs.Try.prog 37 (cutEnt lk28_0 ok28_0 (loopO stepk28_0)) (Code.at' [1, 1, 1, 0, 1, 0] bodyk28) := by
  have e : Code.at' [1, 1, 1, 0, 1, 0] bodyk28 = .loop (Code.at' [1, 1, 1, 0, 1, 0, 0] bodyk28) := by kernel_rfl
  rw [e]
  refine loop_ok ck28 37 rfl rfl (annOk_of_cuts ?_) eqk28_0
  have hc : Ann.cuts annk28_0 = [([1, 0, 0, 1, 1, 0], (cutEnt lk28_1 ok28_1 (loopO (stepk28_1))))] := by kernel_rfl
  rw [hc]
  intro x hx
  simp only [List.mem_cons, List.not_mem_nil, or_false] at hx
  rcases hx with rfl
  · have e : Code.at' [1, 0, 0, 1, 1, 0] (Code.at' [1, 1, 1, 0, 1, 0, 0] bodyk28) = Code.at' [1, 1, 1, 0, 1, 0, 0, 1, 0, 0, 1, 1, 0] bodyk28 := by kernel_rfl
    rw [e]; exact okk28_1

theorem eqk28 : ∀ x : Sk28.inT, exec ktab (ofL Ek27) 37 bodyk28 annk28 (finL ktab Sk28) (Sk28.inp.enc x) = Fk28 x := by
  intro x
  kernel_rfl
theorem callsk28 : CallsL Go.Proofs.Try.prog 28 Sk28 Fk28 := by
  refine fun_callsL (fn := Go.Proofs.Try.f28) (c := bodyk28) (ann := annk28) ck28 (by kernel_rfl) (by kernel_rfl) (by kernel_rfl) (by kernel_rfl) (by kernel_rfl) (annOk_of_cuts ?_) eqk28
  have hc : Ann.cuts annk28 = [([1, 1, 1, 0, 1, 0], (cutEnt lk28_0 ok28_0 (loopO (stepk28_0))))] := by kernel_rfl
  rw [hc]
  intro x hx
  simp only [List.mem_cons, List.not_mem_nil, or_false] at hx
  rcases hx with rfl
  · have e : Code.at' [1, 1, 1, 0, 1, 0] bodyk28 = Code.at' [1, 1, 1, 0, 1, 0] bodyk28 := by kernel_rfl
    rw [e]; exact okk28_0

theorem entk28 : EntOk Go.Proofs.Try.prog 28 (funEntL Sk28 true Fk28) := fun_okL (fn := Go.Proofs.Try.f28) (c := bodyk28) (by kernel_rfl) (by kernel_rfl) (by kernel_rfl) (by kernel_rfl) callsk28
noncomputable def Ek28 : List (Nat × Ent) := (28, funEntL Sk28 true Fk28) :: Ek27
theorem Ek28_ok : EntsOk Go.Proofs.Try.prog (ofL Ek28) := .cons entk28 Ek27_ok

/-! ### barbican/barbicanref03.left -/
noncomputable def bodyk29 : Code := (Go.Proofs.Try.f29.body).getD .skip
abbrev Sk29 : FL := ⟨⟨[], [.env 0 (.c (.int .u64)), .env 1 (.c (.int .i64))], []⟩, 2, [(.ret, ⟨[], [.env 0 (.c (.int .u64))], []⟩)], [.tmp 4], false⟩
noncomputable def ck29 : Ctx Go.Proofs.Try.prog := ⟨ktab, ofL Ek28, ktabOk, Ek28_ok, kdep, kord⟩
noncomputable def Fk29 : Int × Int → Option ((Int))
  | (a0, a1) =>
    if (a1 == 0) = true then
      some a0
    else
      if 0 ≤ (IntKind.u64.wrap a1) then
        if 0 ≤ (IntKind.u64.wrap (IntKind.i64.wrap (64 - a1))) then
          let x1 : Int := (shrI .u64 a0 (IntKind.u64.wrap (IntKind.i64.wrap (64 - a1))))
          let x2 : Int := (IntKind.u64.wrap ((shlI .u64 a0 (IntKind.u64.wrap a1)) + x1))
          some x2
        else none
      else none

noncomputable def annk29 : Ann := .none
theorem eqk29 : ∀ x : Sk29.inT, exec ktab (ofL Ek28) 18 bodyk29 annk29 (finL ktab Sk29) (Sk29.inp.enc x) = Fk29 x := by
  rintro ⟨a0, a1⟩
  kernel_rfl
theorem callsk29 : CallsL Go.Proofs.Try.prog 29 Sk29 Fk29 := by
  refine fun_callsL (fn := Go.Proofs.Try.f29) (c := bodyk29) (ann := annk29) ck29 (by kernel_rfl) (by kernel_rfl) (by kernel_rfl) (by kernel_rfl) (by kernel_rfl) (annOk_of_cuts ?_) eqk29
  intro x hx
  exact absurd hx (by show x ∉ ([] : List (List Nat × LEnt)); simp)

theorem entk29 : EntOk Go.Proofs.Try.prog 29 (funEntL Sk29 true Fk29) := fun_okL (fn := Go.Proofs.Try.f29) (c := bodyk29) (by kernel_rfl) (by kernel_rfl) (by kernel_rfl) (by kernel_rfl) callsk29
noncomputable def Ek29 : List (Nat × Ent) := (29, funEntL Sk29 true Fk29) :: Ek28
theorem Ek29_ok : EntsOk Go.Proofs.Try.prog (ofL Ek29) := .cons entk29 Ek28_ok

/-! ### barbican/barbicanref03.Permute -/
noncomputable def bodyk10 : Code := (Go.Proofs.Try.f10.body).getD .skip
abbrev Sk10 : FL := ⟨⟨[], [.env 0 (.agg [.ints .u64 25])], []⟩, 1, [(.ret, ⟨[], [.env 0 (.agg [.ints .u64 25])], []⟩)], [.cell 2 23], false⟩
noncomputable def ck10 : Ctx Go.Proofs.Try.prog := ⟨ktab, ofL Ek29, ktabOk, Ek29_ok, kdep, kord⟩
abbrev lk10_2 : Lay := ⟨[(1, .ptr 1 0 25), (2, .ptr 2 0 25), (3, .ptr 3 0 25), (4, .ptr 4 0 24), (6, .ptr 6 0 25)], [.env 5 (.c (.int .i64)), .env 7 (.c (.int .i64)), .env 8 (.c (.int .u64)), .env 9 (.c (.int .u64)), .env 10 (.c (.int .i64)), .reg 1 (.cells [.ints .u64 25]), .reg 2 (.cells [.ints .u64 25]), .reg 3 (.cells [.ints .i64 25]), .reg 4 (.cells [.ints .u64 24]), .reg 6 (.cells [.ints .u64 25])], [(1, .env 1 0), (2, .env 2 0), (3, .env 3 0), (4, .env 4 0), (6, .env 6 0)]⟩
abbrev ok10_2 : List (AExit × Lay) := [(.exit 4, ⟨[(1, .ptr 1 0 25), (2, .ptr 2 0 25), (3, .ptr 3 0 25), (4, .ptr 4 0 24), (6, .ptr 6 0 25)], [.env 5 (.c (.int .i64)), .env 7 (.c (.int .i64)), .env 8 (.c (.int .u64)), .env 9 (.c (.int .u64)), .reg 1 (.cells [.ints .u64 25]), .reg 2 (.cells [.ints .u64 25]), .reg 3 (.cells [.ints .i64 25]), .reg 4 (.cells [.ints .u64 24]), .reg 6 (.cells [.ints .u64 25])], [(1, .env 1 0), (2, .env 2 0), (3, .env 3 0), (4, .env 4 0), (6, .env 6 0)]⟩)]
noncomputable def stepk10_2 : Int × Int × Int × Int × Int × (Nat → Int) × (Nat → Int) × (Nat → Int) × (Nat → Int) × (Nat → Int) → Option ((Int × Int × Int × Int × Int × (Nat → Int) × (Nat → Int) × (Nat → Int) × (Nat → Int) × (Nat → Int)) ⊕ ((Int × Int × Int × Int × (Nat → Int) × (Nat → Int) × (Nat → Int) × (Nat → Int) × (Nat → Int))))
  | (t5, t7, t8, t9, t10, r1, r2, r3, r4, r6) =>
    if (decide (t10 < 5)) = true then
      let x3 : Int := (IntKind.i64.wrap (((IntKind.i64.wrap (t7 + 4)).tmod 5) + (IntKind.i64.wrap (5 * t10))))
      if (0 : Int) ≤ x3 ∧ x3 < ((25 : Int) : Int) then
        let x4 : Int := (IntKind.i64.wrap (((IntKind.i64.wrap (t7 + 1)).tmod 5) + (IntKind.i64.wrap (5 * t10))))
        if (0 : Int) ≤ x4 ∧ x4 < ((25 : Int) : Int) then
          some (.inl (t5, t7, (bitsXor .u64 t8 (r1 x3.toNat)), (bitsXor .u64 t9 (r1 x4.toNat)), (IntKind.i64.wrap (t10 + 1)), r1, r2, r3, r4, r6))
        else none
      else none
    else
      some (.inr (t5, t7, t8, t9, r1, r2, r3, r4, r6))

noncomputable def annk10_2 : Ann := .none
abbrev lk10_3 : Lay := ⟨[(1, .ptr 1 0 25), (2, .ptr 2 0 25), (3, .ptr 3 0 25), (4, .ptr 4 0 24), (6, .ptr 6 0 25)], [.env 5 (.c (.int .i64)), .env 7 (.c (.int .i64)), .env 8 (.c (.int .u64)), .env 9 (.c (.int .u64)), .env 11 (.c (.int .i64)), .reg 1 (.cells [.ints .u64 25]), .reg 2 (.cells [.ints .u64 25]), .reg 3 (.cells [.ints .i64 25]), .reg 4 (.cells [.ints .u64 24]), .reg 6 (.cells [.ints .u64 25])], [(1, .env 1 0), (2, .env 2 0), (3, .env 3 0), (4, .env 4 0), (6, .env 6 0)]⟩
abbrev ok10_3 : List (AExit × Lay) := [(.exit 6, ⟨[(1, .ptr 1 0 25), (2, .ptr 2 0 25), (3, .ptr 3 0 25), (4, .ptr 4 0 24), (6, .ptr 6 0 25)], [.env 5 (.c (.int .i64)), .env 7 (.c (.int .i64)), .reg 1 (.cells [.ints .u64 25]), .reg 2 (.cells [.ints .u64 25]), .reg 3 (.cells [.ints .i64 25]), .reg 4 (.cells [.ints .u64 24]), .reg 6 (.cells [.ints .u64 25])], [(1, .env 1 0), (2, .env 2 0), (3, .env 3 0), (4, .env 4 0), (6, .env 6 0)]⟩)]
noncomputable def stepk10_3 : Int × Int × Int × Int × Int × (Nat → Int) × (Nat → Int) × (Nat → Int) × (Nat → Int) × (Nat → Int) → Option ((Int × Int × Int × Int × Int × (Nat → Int) × (Nat → Int) × (Nat → Int) × (Nat → Int) × (Nat → Int)) ⊕ ((Int × Int × (Nat → Int) × (Nat → Int) × (Nat → Int) × (Nat → Int) × (Nat → Int))))
  | (t5, t7, t8, t9, t11, r1, r2, r3, r4, r6) =>
    if (decide (t11 < 5)) = true then
      if (0 : Int) ≤ (IntKind.i64.wrap (t7 + (IntKind.i64.wrap (5 * t11)))) ∧ (IntKind.i64.wrap (t7 + (IntKind.i64.wrap (5 * t11)))) < ((25 : Int) : Int) then
        let x14 : Int := (r1 (IntKind.i64.wrap (t7 + (IntKind.i64.wrap (5 * t11)))).toNat)
        (Fk29 (t9, 1)).bind fun y15 =>
          if (0 : Int) ≤ (IntKind.i64.wrap (t7 + (IntKind.i64.wrap (5 * t11)))) ∧ (IntKind.i64.wrap (t7 + (IntKind.i64.wrap (5 * t11)))) < ((25 : Int) : Int) then
            let f16 : Nat → Int := (upd r6 (IntKind.i64.wrap (t7 + (IntKind.i64.wrap (5 * t11)))).toNat (bitsXor .u64 (bitsXor .u64 x14 t8) y15))
            some (.inl (t5, t7, t8, t9, (IntKind.i64.wrap (t11 + 1)), r1, r2, r3, r4, f16))
          else none
      else none
    else
      some (.inr (t5, t7, r1, r2, r3, r4, r6))

noncomputable def annk10_3 : Ann := .none
abbrev lk10_1 : Lay := ⟨[(1, .ptr 1 0 25), (2, .ptr 2 0 25), (3, .ptr 3 0 25), (4, .ptr 4 0 24), (6, .ptr 6 0 25)], [.env 5 (.c (.int .i64)), .env 7 (.c (.int .i64)), .reg 1 (.cells [.ints .u64 25]), .reg 2 (.cells [.ints .u64 25]), .reg 3 (.cells [.ints .i64 25]), .reg 4 (.cells [.ints .u64 24]), .reg 6 (.cells [.ints .u64 25])], [(1, .env 1 0), (2, .env 2 0), (3, .env 3 0), (4, .env 4 0), (6, .env 6 0)]⟩
abbrev ok10_1 : List (AExit × Lay) := [(.exit 2, ⟨[(1, .ptr 1 0 25), (2, .ptr 2 0 25), (3, .ptr 3 0 25), (4, .ptr 4 0 24), (6, .ptr 6 0 25)], [.env 5 (.c (.int .i64)), .reg 1 (.cells [.ints .u64 25]), .reg 2 (.cells [.ints .u64 25]), .reg 3 (.cells [.ints .i64 25]), .reg 4 (.cells [.ints .u64 24]), .reg 6 (.cells [.ints .u64 25])], [(1, .env 1 0), (2, .env 2 0), (3, .env 3 0), (4, .env 4 0), (6, .env 6 0)]⟩)]
noncomputable def stepk10_1 : Int × Int × (Nat → Int) × (Nat → Int) × (Nat → Int) × (Nat → Int) × (Nat → Int) → Option ((Int × Int × (Nat → Int) × (Nat → Int) × (Nat → Int) × (Nat → Int) × (Nat → Int)) ⊕ ((Int × (Nat → Int) × (Nat → Int) × (Nat → Int) × (Nat → Int) × (Nat → Int))))
  | (t5, t7, r1, r2, r3, r4, r6) =>
    if (decide (t7 < 5)) = true then
      (loopO stepk10_2 (t5, t7, 0, 0, 0, r1, r2, r3, r4, r6)).bind fun (z5, z6, z7, z8, z9, z10, z11, z12, z13) =>
        (loopO stepk10_3 (z5, z6, z7, z8, 0, z9, z10, z11, z12, z13)).bind fun (z17, z18, z19, z20, z21, z22, z23) =>
          some (.inl (z17, (IntKind.i64.wrap (z18 + 1)), z19, z20, z21, z22, z23))
    else
      some (.inr (t5, r1, r2, r3, r4, r6))

noncomputable def annk10_1 : Ann := (.seq .none (.seq (.seq (.seq .none (.seq .none (.seq (.seq .none (.seq (.cut (cutEnt lk10_2 ok10_2 (loopO (stepk10_2)))) .none)) (.seq .none (.seq (.cut (cutEnt lk10_3 ok10_3 (loopO (stepk10_3)))) .none))))) .none) .none))
abbrev lk10_5 : Lay := ⟨[(1, .ptr 1 0 25), (2, .ptr 2 0 25), (3, .ptr 3 0 25), (4, .ptr 4 0 24), (6, .ptr 6 0 25), (12, .ptr 12 0 25)], [.env 5 (.c (.int .i64)), .env 13 (.c (.int .i64)), .env 14 (.c (.int .i64)), .reg 1 (.cells [.ints .u64 25]), .reg 2 (.cells [.ints .u64 25]), .reg 3 (.cells [.ints .i64 25]), .reg 4 (.cells [.ints .u64 24]), .reg 6 (.cells [.ints .u64 25]), .reg 12 (.cells [.ints .u64 25])], [(1, .env 1 0), (2, .env 2 0), (3, .env 3 0), (4, .env 4 0), (6, .env 6 0), (12, .env 12 0)]⟩
abbrev ok10_5 : List (AExit × Lay) := [(.exit 10, ⟨[(1, .ptr 1 0 25), (2, .ptr 2 0 25), (3, .ptr 3 0 25), (4, .ptr 4 0 24), (6, .ptr 6 0 25), (12, .ptr 12 0 25)], [.env 5 (.c (.int .i64)), .env 13 (.c (.int .i64)), .reg 1 (.cells [.ints .u64 25]), .reg 2 (.cells [.ints .u64 25]), .reg 3 (.cells [.ints .i64 25]), .reg 4 (.cells [.ints .u64 24]), .reg 6 (.cells [.ints .u64 25]), .reg 12 (.cells [.ints .u64 25])], [(1, .env 1 0), (2, .env 2 0), (3, .env 3 0), (4, .env 4 0), (6, .env 6 0), (12, .env 12 0)]⟩)]
noncomputable def stepk10_5 : Int × Int × Int × (Nat → Int) × (Nat → Int) × (Nat → Int) × (Nat → Int) × (Nat → Int) × (Nat → Int) → Option ((Int × Int × Int × (Nat → Int) × (Nat → Int) × (Nat → Int) × (Nat → Int) × (Nat → Int) × (Nat → Int)) ⊕ ((Int × Int × (Nat → Int) × (Nat → Int) × (Nat → Int) × (Nat → Int) × (Nat → Int) × (Nat → Int))))
  | (t5, t13, t14, r1, r2, r3, r4, r6, r12) =>
    if (decide (t14 < 5)) = true then
      let x30 : Int := (IntKind.i64.wrap ((IntKind.i64.wrap (2 * t13)) + (IntKind.i64.wrap (3 * t14))))
      let x31 : Int := (IntKind.i64.wrap (t14 + (IntKind.i64.wrap (5 * (x30.tmod 5)))))
      if (0 : Int) ≤ (IntKind.i64.wrap (t13 + (IntKind.i64.wrap (5 * t14)))) ∧ (IntKind.i64.wrap (t13 + (IntKind.i64.wrap (5 * t14)))) < ((25 : Int) : Int) then
        let x32 : Nat := (IntKind.i64.wrap (t13 + (IntKind.i64.wrap (5 * t14)))).toNat
        if (0 : Int) ≤ (IntKind.i64.wrap (t13 + (IntKind.i64.wrap (5 * t14)))) ∧ (IntKind.i64.wrap (t13 + (IntKind.i64.wrap (5 * t14)))) < ((25 : Int) : Int) then
          let x33 : Nat := (IntKind.i64.wrap (t13 + (IntKind.i64.wrap (5 * t14)))).toNat
          (Fk29 ((r6 x32), (r3 x33))).bind fun y34 =>
            if (0 : Int) ≤ x31 ∧ x31 < ((25 : Int) : Int) then
              some (.inl (t5, t13, (IntKind.i64.wrap (t14 + 1)), r1, r2, r3, r4, r6, (upd r12 x31.toNat y34)))
            else none
        else none
      else none
    else
      some (.inr (t5, t13, r1, r2, r3, r4, r6, r12))

noncomputable def annk10_5 : Ann := .none
abbrev lk10_4 : Lay := ⟨[(1, .ptr 1 0 25), (2, .ptr 2 0 25), (3, .ptr 3 0 25), (4, .ptr 4 0 24), (6, .ptr 6 0 25), (12, .ptr 12 0 25)], [.env 5 (.c (.int .i64)), .env 13 (.c (.int .i64)), .reg 1 (.cells [.ints .u64 25]), .reg 2 (.cells [.ints .u64 25]), .reg 3 (.cells [.ints .i64 25]), .reg 4 (.cells [.ints .u64 24]), .reg 6 (.cells [.ints .u64 25]), .reg 12 (.cells [.ints .u64 25])], [(1, .env 1 0), (2, .env 2 0), (3, .env 3 0), (4, .env 4 0), (6, .env 6 0), (12, .env 12 0)]⟩
abbrev ok10_4 : List (AExit × Lay) := [(.exit 8, ⟨[(1, .ptr 1 0 25), (2, .ptr 2 0 25), (3, .ptr 3 0 25), (4, .ptr 4 0 24), (12, .ptr 12 0 25)], [.env 5 (.c (.int .i64)), .reg 1 (.cells [.ints .u64 25]), .reg 2 (.cells [.ints .u64 25]), .reg 3 (.cells [.ints .i64 25]), .reg 4 (.cells [.ints .u64 24]), .reg 12 (.cells [.ints .u64 25])], [(1, .env 1 0), (2, .env 2 0), (3, .env 3 0), (4, .env 4 0), (12, .env 12 0)]⟩)]
noncomputable def stepk10_4 : Int × Int × (Nat → Int) × (Nat → Int) × (Nat → Int) × (Nat → Int) × (Nat → Int) × (Nat → Int) → Option ((Int × Int × (Nat → Int) × (Nat → Int) × (Nat → Int) × (Nat → Int) × (Nat → Int) × (Nat → Int)) ⊕ ((Int × (Nat → Int) × (Nat → Int) × (Nat → Int) × (Nat → Int) × (Nat → Int))))
  | (t5, t13, r1, r2, r3, r4, r6, r12) =>
    if (decide (t13 < 5)) = true then
      (loopO stepk10_5 (t5, t13, 0, r1, r2, r3, r4, r6, r12)).bind fun (z35, z36, z37, z38, z39, z40, z41, z42) =>
        some (.inl (z35, (IntKind.i64.wrap (z36 + 1)), z37, z38, z39, z40, z41, z42))
    else
      some (.inr (t5, r1, r2, r3, r4, r12))

noncomputable def annk10_4 : Ann := (.seq .none (.seq (.seq (.seq .none (.seq (.cut (cutEnt lk10_5 ok10_5 (loopO (stepk10_5)))) .none)) .none) .none))
abbrev lk10_7 : Lay := ⟨[(1, .ptr 1 0 25), (2, .ptr 2 0 25), (3, .ptr 3 0 25), (4, .ptr 4 0 24), (12, .ptr 12 0 25)], [.env 5 (.c (.int .i64)), .env 15 (.c (.int .i64)), .env 16 (.c (.int .i64)), .reg 1 (.cells [.ints .u64 25]), .reg 2 (.cells [.ints .u64 25]), .reg 3 (.cells [.ints .i64 25]), .reg 4 (.cells [.ints .u64 24]), .reg 12 (.cells [.ints .u64 25])], [(1, .env 1 0), (2, .env 2 0), (3, .env 3 0), (4, .env 4 0), (12, .env 12 0)]⟩
abbrev ok10_7 : List (AExit × Lay) := [(.exit 14, ⟨[(1, .ptr 1 0 25), (2, .ptr 2 0 25), (3, .ptr 3 0 25), (4, .ptr 4 0 24), (12, .ptr 12 0 25)], [.env 5 (.c (.int .i64)), .env 15 (.c (.int .i64)), .reg 1 (.cells [.ints .u64 25]), .reg 2 (.cells [.ints .u64 25]), .reg 3 (.cells [.ints .i64 25]), .reg 4 (.cells [.ints .u64 24]), .reg 12 (.cells [.ints .u64 25])], [(1, .env 1 0), (2, .env 2 0), (3, .env 3 0), (4, .env 4 0), (12, .env 12 0)]⟩)]
noncomputable def stepk10_7 : Int × Int × Int × (Nat → Int) × (Nat → Int) × (Nat → Int) × (Nat → Int) × (Nat → Int) → Option ((Int × Int × Int × (Nat → Int) × (Nat → Int) × (Nat → Int) × (Nat → Int) × (Nat → Int)) ⊕ ((Int × Int × (Nat → Int) × (Nat → Int) × (Nat → Int) × (Nat → Int) × (Nat → Int))))
  | (t5, t15, t16, r1, r2, r3, r4, r12) =>
    if (decide (t16 < 5)) = true then
      if (0 : Int) ≤ (IntKind.i64.wrap (t15 + (IntKind.i64.wrap (5 * t16)))) ∧ (IntKind.i64.wrap (t15 + (IntKind.i64.wrap (5 * t16)))) < ((25 : Int) : Int) then
        let x49 : Nat := (IntKind.i64.wrap (t15 + (IntKind.i64.wrap (5 * t16)))).toNat
        let x50 : Int := (IntKind.i64.wrap (((IntKind.i64.wrap (t15 + 1)).tmod 5) + (IntKind.i64.wrap (5 * t16))))
        if (0 : Int) ≤ x50 ∧ x50 < ((25 : Int) : Int) then
          let x51 : Int := (IntKind.i64.wrap (((IntKind.i64.wrap (t15 + 2)).tmod 5) + (IntKind.i64.wrap (5 * t16))))
          if (0 : Int) ≤ x51 ∧ x51 < ((25 : Int) : Int) then
            let x52 : Int := (bitsXor .u64 (r12 x49) (bitsAnd .u64 (notI .u64 (r12 x50.toNat)) (r12 x51.toNat)))
            if (0 : Int) ≤ (IntKind.i64.wrap (t15 + (IntKind.i64.wrap (5 * t16)))) ∧ (IntKind.i64.wrap (t15 + (IntKind.i64.wrap (5 * t16)))) < ((25 : Int) : Int) then
              let x53 : Nat := (IntKind.i64.wrap (t15 + (IntKind.i64.wrap (5 * t16)))).toNat
              some (.inl (t5, t15, (IntKind.i64.wrap (t16 + 1)), (upd r1 x53 x52), r2, r3, r4, r12))
            else none
          else none
        else none
      else none
    else
      some (.inr (t5, t15, r1, r2, r3, r4, r12))

noncomputable def annk10_7 : Ann := .none
abbrev lk10_6 : Lay := ⟨[(1, .ptr 1 0 25), (2, .ptr 2 0 25), (3, .ptr 3 0 25), (4, .ptr 4 0 24), (12, .ptr 12 0 25)], [.env 5 (.c (.int .i64)), .env 15 (.c (.int .i64)), .reg 1 (.cells [.ints .u64 25]), .reg 2 (.cells [.ints .u64 25]), .reg 3 (.cells [.ints .i64 25]), .reg 4 (.cells [.ints .u64 24]), .reg 12 (.cells [.ints .u64 25])], [(1, .env 1 0), (2, .env 2 0), (3, .env 3 0), (4, .env 4 0), (12, .env 12 0)]⟩
abbrev ok10_6 : List (AExit × Lay) := [(.exit 12, ⟨[(1, .ptr 1 0 25), (2, .ptr 2 0 25), (3, .ptr 3 0 25), (4, .ptr 4 0 24)], [.env 5 (.c (.int .i64)), .reg 1 (.cells [.ints .u64 25]), .reg 2 (.cells [.ints .u64 25]), .reg 3 (.cells [.ints .i64 25]), .reg 4 (.cells [.ints .u64 24])], [(1, .env 1 0), (2, .env 2 0), (3, .env 3 0), (4, .env 4 0)]⟩)]
noncomputable def stepk10_6 : Int × Int × (Nat → Int) × (Nat → Int) × (Nat → Int) × (Nat → Int) × (Nat → Int) → Option ((Int × Int × (Nat → Int) × (Nat → Int) × (Nat → Int) × (Nat → Int) × (Nat → Int)) ⊕ ((Int × (Nat → Int) × (Nat → Int) × (Nat → Int) × (Nat → Int))))
  | (t5, t15, r1, r2, r3, r4, r12) =>
    if (decide (t15 < 5)) = true then
      (loopO stepk10_7 (t5, t15, 0, r1, r2, r3, r4, r12)).bind fun (z54, z55, z56, z57, z58, z59, z60) =>
        some (.inl (z54, (IntKind.i64.wrap (z55 + 1)), z56, z57, z58, z59, z60))
    else
      some (.inr (t5, r1, r2, r3, r4))

noncomputable def annk10_6 : Ann := (.seq .none (.seq (.seq (.seq .none (.seq (.cut (cutEnt lk10_7 ok10_7 (loopO (stepk10_7)))) .none)) .none) .none))
abbrev lk10_0 : Lay := ⟨[(1, .ptr 1 0 25), (2, .ptr 2 0 25), (3, .ptr 3 0 25), (4, .ptr 4 0 24)], [.env 5 (.c (.int .i64)), .reg 1 (.cells [.ints .u64 25]), .reg 2 (.cells [.ints .u64 25]), .reg 3 (.cells [.ints .i64 25]), .reg 4 (.cells [.ints .u64 24])], [(1, .env 1 0), (2, .env 2 0), (3, .env 3 0), (4, .env 4 0)]⟩
abbrev ok10_0 : List (AExit × Lay) := [(.exit 0, ⟨[(1, .ptr 1 0 25), (2, .ptr 2 0 25)], [.reg 1 (.cells [.ints .u64 25]), .reg 2 (.cells [.ints .u64 25])], [(1, .env 1 0), (2, .env 2 0)]⟩)]
noncomputable def stepk10_0 : Int × (Nat → Int) × (Nat → Int) × (Nat → Int) × (Nat → Int) → Option ((Int × (Nat → Int) × (Nat → Int) × (Nat → Int) × (Nat → Int)) ⊕ (((Nat → Int) × (Nat → Int))))
  | (t5, r1, r2, r3, r4) =>
    if (decide (t5 < 24)) = true then
      (loopO stepk10_1 (t5, 0, r1, r2, r3, r4, (fun _ => 0))).bind fun (z24, z25, z26, z27, z28, z29) =>
        (loopO stepk10_4 (z24, 0, z25, z26, z27, z28, z29, (fun _ => 0))).bind fun (z43, z44, z45, z46, z47, z48) =>
          (loopO stepk10_6 (z43, 0, z44, z45, z46, z47, z48)).bind fun (z61, z62, z63, z64, z65) =>
            if (0 : Int) ≤ z61 ∧ z61 < ((24 : Int) : Int) then
              some (.inl ((IntKind.i64.wrap (z61 + 1)), (upd z62 0 (bitsXor .u64 (z62 0) (z65 z61.toNat))), z63, z64, z65))
            else none
    else
      some (.inr (r1, r2))

noncomputable def annk10_0 : Ann := (.seq .none (.seq (.seq (.seq .none (.seq (.seq .none (.seq (.cut (cutEnt lk10_1 ok10_1 (loopO (stepk10_1)))) .none)) (.seq .none (.seq (.seq .none (.seq (.cut (cutEnt lk10_4 ok10_4 (loopO (stepk10_4)))) .none)) (.seq (.seq .none (.seq (.cut (cutEnt lk10_6 ok10_6 (loopO (stepk10_6)))) .none)) .none))))) .none) .none))
noncomputable def Fk10 : (Nat → Int) → Option (((Nat → Int)))
  | a0 =>
    (Fk27 ()).bind fun y1 =>
      (Fk28 ()).bind fun y2 =>
        (loopO stepk10_0 (0, a0, (fun _ => 0), y1, y2)).bind fun (z66, z67) =>
          some z66

noncomputable def annk10 : Ann := (.seq .none (.seq .none (.seq .none (.seq (.seq .none (.seq (.cut (cutEnt lk10_0 ok10_0 (loopO (stepk10_0)))) .none)) .none))))
theorem eqk10_2 : ∀ s : lk10_2.T, exec ktab (ofL Ek29) 148 (Code.at' [1, 1, 1, 0, 1, 0, 0, 1, 0, 0, 1, 0, 1, 0, 0, 1, 0, 0, 1, 1, 0, 1, 0, 0] bodyk10) annk10_2 (fun e st => loopEnd (l := lk10_2) (outs := ok10_2) e st) (lk10_2.enc s) = stepk10_2 s := by
  rintro ⟨t5, t7, t8, t9, t10, r1, r2, r3, r4, r6⟩
  kernel_rfl
theorem okk10_2 : LOk Go.Proofs.Try.prog 148 (cutEnt lk10_2 ok10_2 (loopO stepk10_2)) (Code.at' [1, 1, 1, 0, 1, 0, 0, 1, 0, 0, 1, 0, 1, 0, 0, 1, 0, 0, 1, 1, 0, 1, 0] bodyk10) := by
  have e : Code.at' [1, 1, 1, 0, 1, 0, 0, 1, 0, 0, 1, 0, 1, 0, 0, 1, 0, 0, 1, 1, 0, 1, 0] bodyk10 = .loop (Code.at' [1, 1, 1, 0, 1, 0, 0, 1, 0, 0, 1, 0, 1, 0, 0, 1, 0, 0, 1, 1, 0, 1, 0, 0] bodyk10) := by kernel_rfl
  rw [e]
  refine loop_ok ck10 148 rfl rfl (annOk_of_cuts ?_) eqk10_2
  intro x hx
  exact absurd hx (by show x ∉ ([] : List (List Nat × LEnt)); simp)

theorem eqk10_3 : ∀ s : lk10_3.T, exec ktab (ofL Ek29) 148 (Code.at' [1, 1, 1, 0, 1, 0, 0, 1, 0, 0, 1, 0, 1, 0, 0, 1, 0, 0, 1, 1, 1, 1, 0, 0] bodyk10) annk10_3 (fun e st => loopEnd (l := lk10_3) (outs := ok10_3) e st) (lk10_3.enc s) = stepk10_3 s := by
  rintro ⟨t5, t7, t8, t9, t11, r1, r2, r3, r4, r6⟩
  kernel_rfl
theorem okk10_3 : LOk Go.Proofs.Try.prog 148 (cutEnt lk10_3 ok10_3 (loopO stepk10_3)) (Code.at' [1, 1, 1, 0, 1, 0, 0, 1, 0, 0, 1, 0, 1, 0, 0, 1, 0, 0, 1, 1, 1, 1, 0] bodyk10) := by
  have e : Code.at' [1, 1, 1, 0, 1, 0, 0, 1, 0, 0, 1, 0, 1, 0, 0, 1, 0, 0, 1, 1, 1, 1, 0] bodyk10 = .loop (Code.at' [1, 1, 1, 0, 1, 0, 0, 1, 0, 0, 1, 0, 1, 0, 0, 1, 0, 0, 1, 1, 1, 1, 0, 0] bodyk10) := by kernel_rfl
  rw [e]
  refine loop_ok ck10 148 rfl rfl (annOk_of_cuts ?_) eqk10_3
  intro x hx
  exact absurd hx (by show x ∉ ([] : List (List Nat × LEnt)); simp)

theorem eqk10_1 : ∀ s : lk10_1.T, exec ktab (ofL Ek29) 148 (Code.at' [1, 1, 1, 0, 1, 0, 0, 1, 0, 0, 1, 0, 1, 0, 0] bodyk10) annk10_1 (fun e st => loopEnd (l := lk10_1) (outs := ok10_1) e st) (lk10_1.enc s) = stepk10_1 s := by
  rintro ⟨t5, t7, r1, r2, r3, r4, r6⟩
  kernel_rfl
theorem okk10_1 : LOk Go.Proofs.Try.prog 148 (cutEnt lk10_1 ok10_1 (loopO stepk10_1)) (Code.at' [1, 1, 1, 0, 1, 0, 0, 1, 0, 0, 1, 0, 1, 0] bodyk10) := by
  have e : Code.at' [1, 1, 1, 0, 1, 0, 0, 1, 0, 0, 1, 0, 1, 0] bodyk10 = .loop (Code.at' [1, 1, 1, 0, 1, 0, 0, 1, 0, 0, 1, 0, 1, 0, 0] bodyk10) := by kernel_rfl
  rw [e]
  refine loop_ok ck10 148 rfl rfl (annOk_of_cuts ?_) eqk10_1
  have hc : Ann.cuts annk10_1 = [([1, 0, 0, 1, 1, 0, 1, 0], (cutEnt lk10_2 ok10_2 (loopO (stepk10_2)))), ([1, 0, 0, 1, 1, 1, 1, 0], (cutEnt lk10_3 ok10_3 (loopO (stepk10_3))))] := by kernel_rfl
  rw [hc]
  intro x hx
  simp only [List.mem_cons, List.not_mem_nil, or_false] at hx
  rcases hx with rfl | rfl
  · have e : Code.at' [1, 0, 0, 1, 1, 0, 1, 0] (Code.at' [1, 1, 1, 0, 1, 0, 0, 1, 0, 0, 1, 0, 1, 0, 0] bodyk10) = Code.at' [1, 1, 1, 0, 1, 0, 0, 1, 0, 0, 1, 0, 1, 0, 0, 1, 0, 0, 1, 1, 0, 1, 0] bodyk10 := by kernel_rfl
    rw [e]; exact okk10_2
  · have e : Code.at' [1, 0, 0, 1, 1, 1, 1, 0] (Code.at' [1, 1, 1, 0, 1, 0, 0, 1, 0, 0, 1, 0, 1, 0, 0] bodyk10) = Code.at' [1, 1, 1, 0, 1, 0, 0, 1, 0, 0, 1, 0, 1, 0, 0, 1, 0, 0, 1, 1, 1, 1, 0] bodyk10 := by kernel_rfl
    rw [e]; exact okk10_3

theorem eqk10_5 : ∀ s : lk10_5.T, exec ktab (ofL Ek29) 148 (Code.at' [1, 1, 1, 0, 1, 0, 0, 1, 0, 0, 1, 1, 1, 0, 1, 0, 0, 1, 0, 0, 1, 0, 0] bodyk10) annk10_5 (fun e st => loopEnd (l := lk10_5) (outs := ok10_5) e st) (lk10_5.enc s) = stepk10_5 s := by
  rintro ⟨t5, t13, t14, r1, r2, r3, r4, r6, r12⟩
  kernel_rfl
theorem okk10_5 : LOk Go.Proofs.Try.prog 148 (cutEnt lk10_5 ok10_5 (loopO stepk10_5)) (Code.at' [1, 1, 1, 0, 1, 0, 0, 1, 0, 0, 1, 1, 1, 0, 1, 0, 0, 1, 0, 0, 1, 0] bodyk10) := by
  have e : Code.at' [1, 1, 1, 0, 1, 0, 0, 1, 0, 0, 1, 1, 1, 0, 1, 0, 0, 1, 0, 0, 1, 0] bodyk10 = .loop (Code.at' [1, 1, 1, 0, 1, 0, 0, 1, 0, 0, 1, 1, 1, 0, 1, 0, 0, 1, 0, 0, 1, 0, 0] bodyk10) := by kernel_rfl
  rw [e]
  refine loop_ok ck10 148 rfl rfl (annOk_of_cuts ?_) eqk10_5
  intro x hx
  exact absurd hx (by show x ∉ ([] : List (List Nat × LEnt)); simp)

theorem eqk10_4 : ∀ s : lk10_4.T, exec ktab (ofL Ek29) 148 (Code.at' [1, 1, 1, 0, 1, 0, 0, 1, 0, 0, 1, 1, 1, 0, 1, 0, 0] bodyk10) annk10_4 (fun e st => loopEnd (l := lk10_4) (outs := ok10_4) e st) (lk10_4.enc s) = stepk10_4 s := by
  rintro ⟨t5, t13, r1, r2, r3, r4, r6, r12⟩
  kernel_rfl
theorem okk10_4 : LOk Go.Proofs.Try.prog 148 (cutEnt lk10_4 ok10_4 (loopO stepk10_4)) (Code.at' [1, 1, 1, 0, 1, 0, 0, 1, 0, 0, 1, 1, 1, 0, 1, 0] bodyk10) := by
  have e : Code.at' [1, 1, 1, 0, 1, 0, 0, 1, 0, 0, 1, 1, 1, 0, 1, 0] bodyk10 = .loop (Code.at' [1, 1, 1, 0, 1, 0, 0, 1, 0, 0, 1, 1, 1, 0, 1, 0, 0] bodyk10) := by kernel_rfl
  rw [e]
  refine loop_ok ck10 148 rfl rfl (annOk_of_cuts ?_) eqk10_4
  have hc : Ann.cuts annk10_4 = [([1, 0, 0, 1, 0], (cutEnt lk10_5 ok10_5 (loopO (stepk10_5))))] := by kernel_rfl
  rw [hc]
  intro x hx
  simp only [List.mem_cons, List.not_mem_nil, or_false] at hx
  rcases hx with rfl
  · have e : Code.at' [1, 0, 0, 1, 0] (Code.at' [1, 1, 1, 0, 1, 0, 0, 1, 0, 0, 1, 1, 1, 0, 1, 0, 0] bodyk10) = Code.at' [1, 1, 1, 0, 1, 0, 0, 1, 0, 0, 1, 1, 1, 0, 1, 0, 0, 1, 0, 0, 1, 0] bodyk10 := by kernel_rfl
    rw [e]; exact okk10_5

theorem eqk10_7 : ∀ s : lk10_7.T, exec ktab (ofL Ek29) 148 (Code.at' [1, 1, 1, 0, 1, 0, 0, 1, 0, 0, 1, 1, 1, 1, 0, 1, 0, 0, 1, 0, 0, 1, 0, 0] bodyk10) annk10_7 (fun e st => loopEnd (l := lk10_7) (outs := ok10_7) e st) (lk10_7.enc s) = stepk10_7 s := by
  rintro ⟨t5, t15, t16, r1, r2, r3, r4, r12⟩
  kernel_rfl
theorem okk10_7 : LOk Go.Proofs.Try.prog 148 (cutEnt lk10_7 ok10_7 (loopO stepk10_7)) (Code.at' [1, 1, 1, 0, 1, 0, 0, 1, 0, 0, 1, 1, 1, 1, 0, 1, 0, 0, 1, 0, 0, 1, 0] bodyk10) := by
  have e : Code.at' [1, 1, 1, 0, 1, 0, 0, 1, 0, 0, 1, 1, 1, 1, 0, 1, 0, 0, 1, 0, 0, 1, 0] bodyk10 = .loop (Code.at' [1, 1, 1, 0, 1, 0, 0, 1, 0, 0, 1, 1, 1, 1, 0, 1, 0, 0, 1, 0, 0, 1, 0, 0] bodyk10) := by kernel_rfl
  rw [e]
  refine loop_ok ck10 148 rfl rfl (annOk_of_cuts ?_) eqk10_7
  intro x hx
  exact absurd hx (by show x ∉ ([] : List (List Nat × LEnt)); simp)

theorem eqk10_6 : ∀ s : lk10_6.T, exec ktab (ofL Ek29) 148 (Code.at' [1, 1, 1, 0, 1, 0, 0, 1, 0, 0, 1, 1, 1, 1, 0, 1, 0, 0] bodyk10) annk10_6 (fun e st => loopEnd (l := lk10_6) (outs := ok10_6) e st) (lk10_6.enc s) = stepk10_6 s := by
  rintro ⟨t5, t15, r1, r2, r3, r4, r12⟩
  kernel_rfl
theorem okk10_6 : LOk Go.Proofs.Try.prog 148 (cutEnt lk10_6 ok10_6 (loopO stepk10_6)) (Code.at' [1, 1, 1, 0, 1, 0, 0, 1, 0, 0, 1, 1, 1, 1, 0, 1, 0] bodyk10) := by
  have e : Code.at' [1, 1, 1, 0, 1, 0, 0, 1, 0, 0, 1, 1, 1, 1, 0, 1, 0] bodyk10 = .loop (Code.at' [1, 1, 1, 0, 1, 0, 0, 1, 0, 0, 1, 1, 1, 1, 0, 1, 0, 0] bodyk10) := by kernel_rfl
  rw [e]
  refine loop_ok ck10 148 rfl rfl (annOk_of_cuts ?_) eqk10_6
  have hc : Ann.cuts annk10_6 = [([1, 0, 0, 1, 0], (cutEnt lk10_7 ok10_7 (loopO (stepk10_7))))] := by kernel_rfl
  rw [hc]
  intro x hx
  simp only [List.mem_cons, List.not_mem_nil, or_false] at hx
  rcases hx with rfl
  · have e : Code.at' [1, 0, 0, 1, 0] (Code.at' [1, 1, 1, 0, 1, 0, 0, 1, 0, 0, 1, 1, 1, 1, 0, 1, 0, 0] bodyk10) = Code.at' [1, 1, 1, 0, 1, 0, 0, 1, 0, 0, 1, 1, 1, 1, 0, 1, 0, 0, 1, 0, 0, 1, 0] bodyk10 := by kernel_rfl
    rw [e]; exact okk10_7

theorem eqk10_0 : ∀ s : lk10_0.T, exec ktab (ofL Ek29) 148 (Code.at' [1, 1, 1, 0, 1, 0, 0] bodyk10) annk10_0 (fun e st => loopEnd (l := lk10_0) (outs := ok10_0) e st) (lk10_0.enc s) = stepk10_0 s := by
  rintro ⟨t5, r1, r2, r3, r4⟩
  kernel_rfl
theorem okk10_0 : LOk Go.Proofs.Try.prog 148 (cutEnt lk10_0 ok10_0 (loopO stepk10_0)) (Code.at' [1, 1, 1, 0, 1, 0] bodyk10) := by
  have e : Code.at' [1, 1, 1, 0, 1, 0] bodyk10 = .loop (Code.at' [1, 1, 1, 0, 1, 0, 0] bodyk10) := by kernel_rfl
  rw [e]
  refine loop_ok ck10 148 rfl rfl (annOk_of_cuts ?_) eqk10_0
  have hc : Ann.cuts annk10_0 = [([1, 0, 0, 1, 0, 1, 0], (cutEnt lk10_1 ok10_1 (loopO (stepk10_1)))), ([1, 0, 0, 1, 1, 1, 0, 1, 0], (cutEnt lk10_4 ok10_4 (loopO (stepk10_4)))), ([1, 0, 0, 1, 1, 1, 1, 0, 1, 0], (cutEnt lk10_6 ok10_6 (loopO (stepk10_6))))] := by kernel_rfl
  rw [hc]
  intro x hx
  simp only [List.mem_cons, List.not_mem_nil, or_false] at hx
  rcases hx with rfl | rfl | rfl
  · have e : Code.at' [1, 0, 0, 1, 0, 1, 0] (Code.at' [1, 1, 1, 0, 1, 0, 0] bodyk10) = Code.at' [1, 1, 1, 0, 1, 0, 0, 1, 0, 0, 1, 0, 1, 0] bodyk10 := by kernel_rfl
    rw [e]; exact okk10_1
  · have e : Code.at' [1, 0, 0, 1, 1, 1, 0, 1, 0] (Code.at' [1, 1, 1, 0, 1, 0, 0] bodyk10) = Code.at' [1, 1, 1, 0, 1, 0, 0, 1, 0, 0, 1, 1, 1, 0, 1, 0] bodyk10 := by kernel_rfl
    rw [e]; exact okk10_4
  · have e : Code.at' [1, 0, 0, 1, 1, 1, 1, 0, 1, 0] (Code.at' [1, 1, 1, 0, 1, 0, 0] bodyk10) = Code.at' [1, 1, 1, 0, 1, 0, 0, 1, 0, 0, 1, 1, 1, 1, 0, 1, 0] bodyk10 := by kernel_rfl
    rw [e]; exact okk10_6

theorem eqk10 : ∀ x : Sk10.inT, exec ktab (ofL Ek29) 148 bodyk10 annk10 (finL ktab Sk10) (Sk10.inp.enc x) = Fk10 x := by
  intro x
  kernel_rfl
theorem callsk10 : CallsL Go.Proofs.Try.prog 10 Sk10 Fk10 := by
  refine fun_callsL (fn := Go.Proofs.Try.f10) (c := bodyk10) (ann := annk10) ck10 (by kernel_rfl) (by kernel_rfl) (by kernel_rfl) (by kernel_rfl) (by kernel_rfl) (annOk_of_cuts ?_) eqk10
  have hc : Ann.cuts annk10 = [([1, 1, 1, 0, 1, 0], (cutEnt lk10_0 ok10_0 (loopO (stepk10_0))))] := by kernel_rfl
  rw [hc]
  intro x hx
  simp only [List.mem_cons, List.not_mem_nil, or_false] at hx
  rcases hx with rfl
  · have e : Code.at' [1, 1, 1, 0, 1, 0] bodyk10 = Code.at' [1, 1, 1, 0, 1, 0] bodyk10 := by kernel_rfl
    rw [e]; exact okk10_0

theorem entk10 : EntOk Go.Proofs.Try.prog 10 (funEntL Sk10 true Fk10) := fun_okL (fn := Go.Proofs.Try.f10) (c := bodyk10) (by kernel_rfl) (by kernel_rfl) (by kernel_rfl) (by kernel_rfl) callsk10
noncomputable def Ek10 : List (Nat × Ent) := (10, funEntL Sk10 true Fk10) :: Ek29
theorem Ek10_ok : EntsOk Go.Proofs.Try.prog (ofL Ek10) := .cons entk10 Ek29_ok

/-! ### barbican/barbicanlaw03.KecPermutes -/
noncomputable def bodyk3 : Code := (Go.Proofs.Try.f3.body).getD .skip
abbrev Sk3 : FL := ⟨⟨[], [.env 0 (.agg [.ints .u64 25]), .env 1 (.agg [.ints .u64 25])], []⟩, 2, [(.ret, ⟨[], [.env 0 (.c (.bool))], []⟩)], [.tmp 4], false⟩
noncomputable def ck3 : Ctx Go.Proofs.Try.prog := ⟨ktab, ofL Ek10, ktabOk, Ek10_ok, kdep, kord⟩
noncomputable def Fk3 : (Nat → Int) × (Nat → Int) → Option ((Bool))
  | (a0, a1) =>
    (Fk8 ()).bind fun y1 =>
      (Fk9 a0).bind fun y2 =>
        (Fk9 a1).bind fun y3 =>
          if y1 = true then
            (Fk10 a0).bind fun y4 =>
              if (arrEq 25 y2 y4) = true then
                (Fk10 a1).bind fun y5 =>
                  if (arrEq 25 y3 y5) = true then
                    some ((arrEq 25 y2 y3) == (arrEq 25 a0 a1))
                  else
                    some false
              else
                some false
          else
            some false

noncomputable def annk3 : Ann := .none
theorem eqk3 : ∀ x : Sk3.inT, exec ktab (ofL Ek10) 35 bodyk3 annk3 (finL ktab Sk3) (Sk3.inp.enc x) = Fk3 x := by
  rintro ⟨a0, a1⟩
  kernel_rfl
theorem callsk3 : CallsL Go.Proofs.Try.prog 3 Sk3 Fk3 := by
  refine fun_callsL (fn := Go.Proofs.Try.f3) (c := bodyk3) (ann := annk3) ck3 (by kernel_rfl) (by kernel_rfl) (by kernel_rfl) (by kernel_rfl) (by kernel_rfl) (annOk_of_cuts ?_) eqk3
  intro x hx
  exact absurd hx (by show x ∉ ([] : List (List Nat × LEnt)); simp)

theorem entk3 : EntOk Go.Proofs.Try.prog 3 (funEntL Sk3 true Fk3) := fun_okL (fn := Go.Proofs.Try.f3) (c := bodyk3) (by kernel_rfl) (by kernel_rfl) (by kernel_rfl) (by kernel_rfl) callsk3
noncomputable def Ek3 : List (Nat × Ent) := (3, funEntL Sk3 true Fk3) :: Ek10
theorem Ek3_ok : EntsOk Go.Proofs.Try.prog (ofL Ek3) := .cons entk3 Ek10_ok

/-! ### barbican/keccak.Shake -/
noncomputable def bodyk14 : Code := (Go.Proofs.Try.f14.body).getD .skip
abbrev Sk14 : FL := ⟨⟨[], [.env 0 (.c (.int .i64)), .env 1 (.c (.fz (.int .u8))), .env 2 (.c (.int .i64))], []⟩, 3, [(.ret, ⟨[(0, .full 1)], [.reg 1 (.row 5 .u8), .env 1 (.c (.int .i64))], [(1, .env 0 0)]⟩)], [.tmp 6, .tmp 7], false⟩
noncomputable def ck14 : Ctx Go.Proofs.Try.prog := ⟨ktab, ofL Ek3, ktabOk, Ek3_ok, kdep, kord⟩
noncomputable def Fk14 : Int × (List Int) × Int → Option ((List Int × Int))
  | (a0, a1, a2) =>
    if (a0 != 4) = true then
      if (a0 != 5) = true then
        some (([] : List Int), 31)
      else
        if (decide (a2 < 0)) = false then
          if (decide (a2 > 65536)) = true then
            some (([] : List Int), 1)
          else
            (Fk31 (a0, a1, a2)).bind fun y1 =>
              some (y1, 0)
        else
          some (([] : List Int), 1)
    else
      if (decide (a2 < 0)) = false then
        if (decide (a2 > 65536)) = true then
          some (([] : List Int), 1)
        else
          (Fk31 (a0, a1, a2)).bind fun y2 =>
            some (y2, 0)
      else
        some (([] : List Int), 1)

noncomputable def annk14 : Ann := .none
theorem eqk14 : ∀ x : Sk14.inT, exec ktab (ofL Ek3) 26 bodyk14 annk14 (finL ktab Sk14) (Sk14.inp.enc x) = Fk14 x := by
  rintro ⟨a0, a1, a2⟩
  kernel_rfl
theorem callsk14 : CallsL Go.Proofs.Try.prog 14 Sk14 Fk14 := by
  refine fun_callsL (fn := Go.Proofs.Try.f14) (c := bodyk14) (ann := annk14) ck14 (by kernel_rfl) (by kernel_rfl) (by kernel_rfl) (by kernel_rfl) (by kernel_rfl) (annOk_of_cuts ?_) eqk14
  intro x hx
  exact absurd hx (by show x ∉ ([] : List (List Nat × LEnt)); simp)

theorem entk14 : EntOk Go.Proofs.Try.prog 14 (funEntL Sk14 true Fk14) := fun_okL (fn := Go.Proofs.Try.f14) (c := bodyk14) (by kernel_rfl) (by kernel_rfl) (by kernel_rfl) (by kernel_rfl) callsk14
noncomputable def Ek14 : List (Nat × Ent) := (14, funEntL Sk14 true Fk14) :: Ek3
theorem Ek14_ok : EntsOk Go.Proofs.Try.prog (ofL Ek14) := .cons entk14 Ek3_ok

/-! ### barbican/barbicanref02.Same -/
noncomputable def bodyk15 : Code := (Go.Proofs.Try.f15.body).getD .skip
abbrev Sk15 : FL := ⟨⟨[], [.env 0 (.c (.fz (.int .u8))), .env 1 (.c (.fz (.int .u8)))], []⟩, 2, [(.ret, ⟨[], [.env 0 (.c (.bool))], []⟩)], [.tmp 4], false⟩
noncomputable def ck15 : Ctx Go.Proofs.Try.prog := ⟨ktab, ofL Ek14, ktabOk, Ek14_ok, kdep, kord⟩
abbrev lk15_0 : Lay := ⟨[], [.env 0 (.c (.fz (.int .u8))), .env 1 (.c (.fz (.int .u8))), .env 5 (.c (.int .i64))], []⟩
abbrev ok15_0 : List (AExit × Lay) := [(.ret, ⟨[], [.env 4 (.c (.bool))], []⟩), (.exit 0, ⟨[], [], []⟩)]
noncomputable def stepk15_0 : (List Int) × (List Int) × Int → Option (((List Int) × (List Int) × Int) ⊕ ((Bool) ⊕ (Unit)))
  | (t0, t1, t5) =>
    if (decide (t5 < (t0.length : Int))) = true then
      if (0 : Int) ≤ t5 ∧ t5 < (t0.length : Int) then
        if (0 : Int) ≤ t5 ∧ t5 < (t1.length : Int) then
          if ((t0.getD t5.toNat 0) != (t1.getD t5.toNat 0)) = true then
            some (.inr (.inl false))
          else
            some (.inl (t0, t1, (IntKind.i64.wrap (t5 + 1))))
        else none
      else none
    else
      some (.inr (.inr ()))

noncomputable def annk15_0 : Ann := .none
noncomputable def Fk15 : (List Int) × (List Int) → Option ((Bool))
  | (a0, a1) =>
    if ((a0.length : Int) != (a1.length : Int)) = true then
      some false
    else
      (loopO stepk15_0 (a0, a1, 0)).bind fun
        | (.inl z1) =>
          some z1
        | (.inr _) =>
          some true

noncomputable def annk15 : Ann := (.seq .none (.seq .none (.seq (.seq .none (.seq (.cut (cutEnt lk15_0 ok15_0 (loopO (stepk15_0)))) .none)) .none)))
theorem eqk15_0 : ∀ s : lk15_0.T, exec ktab (ofL Ek14) 26 (Code.at' [1, 1, 0, 1, 0, 0] bodyk15) annk15_0 (fun e st => loopEnd (l := lk15_0) (outs := ok15_0) e st) (lk15_0.enc s) = stepk15_0 s := by
  rintro ⟨t0, t1, t5⟩
  kernel_rfl
theorem okk15_0 : LOk Go.Proofs.Try.prog 26 (cutEnt lk15_0 ok15_0 (loopO stepk15_0)) (Code.at' [1, 1, 0, 1, 0] bodyk15) := by
  have e : Code.at' [1, 1, 0, 1, 0] bodyk15 = .loop (Code.at' [1, 1, 0, 1, 0, 0] bodyk15) := by kernel_rfl
  rw [e]
  refine loop_ok ck15 26 rfl rfl (annOk_of_cuts ?_) eqk15_0
  intro x hx
  exact absurd hx (by show x ∉ ([] : List (List Nat × LEnt)); simp)

theorem eqk15 : ∀ x : Sk15.inT, exec ktab (ofL Ek14) 26 bodyk15 annk15 (finL ktab Sk15) (Sk15.inp.enc x) = Fk15 x := by
  rintro ⟨a0, a1⟩
  kernel_rfl
theorem callsk15 : CallsL Go.Proofs.Try.prog 15 Sk15 Fk15 := by
  refine fun_callsL (fn := Go.Proofs.Try.f15) (c := bodyk15) (ann := annk15) ck15 (by kernel_rfl) (by kernel_rfl) (by kernel_rfl) (by kernel_rfl) (by kernel_rfl) (annOk_of_cuts ?_) eqk15
  have hc : Ann.cuts annk15 = [([1, 1, 0, 1, 0], (cutEnt lk15_0 ok15_0 (loopO (stepk15_0))))] := by kernel_rfl
  rw [hc]
  intro x hx
  simp only [List.mem_cons, List.not_mem_nil, or_false] at hx
  rcases hx with rfl
  · have e : Code.at' [1, 1, 0, 1, 0] bodyk15 = Code.at' [1, 1, 0, 1, 0] bodyk15 := by kernel_rfl
    rw [e]; exact okk15_0

theorem entk15 : EntOk Go.Proofs.Try.prog 15 (funEntL Sk15 true Fk15) := fun_okL (fn := Go.Proofs.Try.f15) (c := bodyk15) (by kernel_rfl) (by kernel_rfl) (by kernel_rfl) (by kernel_rfl) callsk15
noncomputable def Ek15 : List (Nat × Ent) := (15, funEntL Sk15 true Fk15) :: Ek14
theorem Ek15_ok : EntsOk Go.Proofs.Try.prog (ofL Ek15) := .cons entk15 Ek14_ok

/-! ### barbican/barbicanlaw03.KecPieces -/
noncomputable def bodyk4 : Code := (Go.Proofs.Try.f4.body).getD .skip
abbrev Sk4 : FL := ⟨⟨[], [.env 0 (.c (.fz (.sl (.int .u8)))), .env 1 (.c (.fz (.int .i64))), .env 2 (.c (.int .i64))], []⟩, 3, [(.ret, ⟨[], [.env 0 (.c (.bool))], []⟩)], [.tmp 6], false⟩
noncomputable def ck4 : Ctx Go.Proofs.Try.prog := ⟨ktab, ofL Ek15, ktabOk, Ek15_ok, kdep, kord⟩
abbrev lk4_0 : Lay := ⟨[(9, .ptr 1028 0 29), (11, .full 11)], [.env 0 (.c (.fz (.sl (.int .u8)))), .env 1 (.c (.fz (.int .i64))), .env 8 (.c (.int .i64)), .env 12 (.c (.int .i64)), .reg 1028 (.cells [.int .i64, .ints .u64 25, .int .i64, .bool, .int .i64]), .reg 11 (.row 5 .u8)], [(1028, .env 9 0), (11, .env 11 0)]⟩
abbrev ok4_0 : List (AExit × Lay) := [(.ret, ⟨[], [.env 6 (.c (.bool))], []⟩), (.exit 0, ⟨[(9, .ptr 1028 0 29), (11, .full 11)], [.env 1 (.c (.fz (.int .i64))), .env 8 (.c (.int .i64)), .reg 1028 (.cells [.int .i64, .ints .u64 25, .int .i64, .bool, .int .i64]), .reg 11 (.row 5 .u8)], [(1028, .env 9 0), (11, .env 11 0)]⟩)]
noncomputable def stepk4_0 : (List (List Int)) × (List Int) × Int × Int × (Int × (Nat → Int) × Int × Bool × Int) × List Int → Option (((List (List Int)) × (List Int) × Int × Int × (Int × (Nat → Int) × Int × Bool × Int) × List Int) ⊕ ((Bool) ⊕ ((List Int) × Int × (Int × (Nat → Int) × Int × Bool × Int) × List Int)))
  | (t0, t1, t8, t12, r1028, r11) =>
    if (decide (t12 < (t0.length : Int))) = true then
      if (decide (t12 < 100)) = true then
        if (0 : Int) ≤ t12 ∧ t12 < (t0.length : Int) then
          (Fk12 ((r1028.1, r1028.2.1, r1028.2.2.1, r1028.2.2.2.1, r1028.2.2.2.2), (t0.getD t12.toNat (DT.dflt (.sl (.int .u8)))))).bind fun (y4, y5) =>
            if (y4 != 0) = true then
              some (.inr (.inl false))
            else
              if (0 : Int) ≤ t12 ∧ t12 < (t0.length : Int) then
                if okBytes (r11.length + (t0.getD t12.toNat (DT.dflt (.sl (.int .u8)))).length) 1 then
                  some (.inl (t0, t1, t8, (IntKind.i64.wrap (t12 + 1)), (y5.1, y5.2.1, y5.2.2.1, y5.2.2.2.1, y5.2.2.2.2), (r11 ++ (t0.getD t12.toNat (DT.dflt (.sl (.int .u8)))))))
                else none
              else none
        else none
      else
        some (.inr (.inr (t1, t8, (r1028.1, r1028.2.1, r1028.2.2.1, r1028.2.2.2.1, r1028.2.2.2.2), r11)))
    else
      some (.inr (.inr (t1, t8, (r1028.1, r1028.2.1, r1028.2.2.1, r1028.2.2.2.1, r1028.2.2.2.2), r11)))

noncomputable def annk4_0 : Ann := .none
abbrev lk4_1 : Lay := ⟨[(9, .ptr 1028 0 29), (11, .full 11), (13, .full 13)], [.env 1 (.c (.fz (.int .i64))), .env 8 (.c (.int .i64)), .env 14 (.c (.int .i64)), .reg 1028 (.cells [.int .i64, .ints .u64 25, .int .i64, .bool, .int .i64]), .reg 11 (.row 5 .u8), .reg 13 (.row 5 .u8)], [(1028, .env 9 0), (11, .env 11 0), (13, .env 13 0)]⟩
abbrev ok4_1 : List (AExit × Lay) := [(.ret, ⟨[], [.env 6 (.c (.bool))], []⟩), (.exit 2, ⟨[(11, .full 11), (13, .full 13)], [.env 8 (.c (.int .i64)), .reg 11 (.row 5 .u8), .reg 13 (.row 5 .u8)], [(11, .env 11 0), (13, .env 13 0)]⟩)]
noncomputable def stepk4_1 : (List Int) × Int × Int × (Int × (Nat → Int) × Int × Bool × Int) × List Int × List Int → Option (((List Int) × Int × Int × (Int × (Nat → Int) × Int × Bool × Int) × List Int × List Int) ⊕ ((Bool) ⊕ (Int × List Int × List Int)))
  | (t1, t8, t14, r1028, r11, r13) =>
    if (decide (t14 < (t1.length : Int))) = true then
      if (decide (t14 < 20)) = true then
        if (0 : Int) ≤ t14 ∧ t14 < (t1.length : Int) then
          if (decide (((t1.getD t14.toNat 0).tmod 500) < 0)) = true then
            (Fk13 ((r1028.1, r1028.2.1, r1028.2.2.1, r1028.2.2.2.1, r1028.2.2.2.2), (IntKind.i64.wrap (0 - ((t1.getD t14.toNat 0).tmod 500))))).bind fun (y11, y12, y13) =>
              if (y12 != 0) = false then
                let x14 : Bool := ((y11.length : Int) != (IntKind.i64.wrap (0 - ((t1.getD t14.toNat 0).tmod 500))))
                if x14 = true then
                  some (.inr (.inl false))
                else
                  if okBytes (r13.length + y11.length) 1 then
                    some (.inl (t1, t8, (IntKind.i64.wrap (t14 + 1)), (y13.1, y13.2.1, y13.2.2.1, y13.2.2.2.1, y13.2.2.2.2), r11, (r13 ++ y11)))
                  else none
              else
                some (.inr (.inl false))
          else
            (Fk13 ((r1028.1, r1028.2.1, r1028.2.2.1, r1028.2.2.2.1, r1028.2.2.2.2), ((t1.getD t14.toNat 0).tmod 500))).bind fun (y15, y16, y17) =>
              if (y16 != 0) = false then
                if ((y15.length : Int) != ((t1.getD t14.toNat 0).tmod 500)) = true then
                  some (.inr (.inl false))
                else
                  if okBytes (r13.length + y15.length) 1 then
                    some (.inl (t1, t8, (IntKind.i64.wrap (t14 + 1)), (y17.1, y17.2.1, y17.2.2.1, y17.2.2.2.1, y17.2.2.2.2), r11, (r13 ++ y15)))
                  else none
              else
                some (.inr (.inl false))
        else none
      else
        some (.inr (.inr (t8, r11, r13)))
    else
      some (.inr (.inr (t8, r11, r13)))

noncomputable def annk4_1 : Ann := .none
noncomputable def Fk4 : (List (List Int)) × (List Int) × Int → Option ((Bool))
  | (a0, a1, a2) =>
    (Fk8 ()).bind fun y1 =>
      if ((a2.tmod 2) != 0) = true then
        (Fk11 5).bind fun
          | (.inl (y2, y3)) =>
            if (!y1) = false then
              if (y3 != 0) = true then
                some false
              else
                (loopO stepk4_0 (a0, a1, 5, 0, (y2.1, y2.2.1, y2.2.2.1, y2.2.2.2.1, y2.2.2.2.2), ([] : List Int))).bind fun
                  | (.inl z6) =>
                    some z6
                  | (.inr (z7, z8, z9, z10)) =>
                    (loopO stepk4_1 (z7, z8, 0, (z9.1, z9.2.1, z9.2.2.1, z9.2.2.2.1, z9.2.2.2.2), z10, ([] : List Int))).bind fun
                      | (.inl z18) =>
                        some z18
                      | (.inr (z19, z20, z21)) =>
                        (Fk14 (z19, z20, (z21.length : Int))).bind fun (y22, y23) =>
                          (Fk14 (z19, z20, (IntKind.i64.wrap ((z21.length : Int) + 37)))).bind fun (y24, y25) =>
                            if (y23 == 0) = true then
                              if (y25 == 0) = true then
                                (Fk15 (y22, z21)).bind fun y26 =>
                                  if y26 = true then
                                    let x27 : Bool := ((y24.length : Int) == (IntKind.i64.wrap ((z21.length : Int) + 37)))
                                    if x27 = true then
                                      if (0 : Int) ≤ (z21.length : Int) ∧ (z21.length : Int) ≤ (y24.length : Int) then
                                        (Fk15 (((y24.drop 0).take ((z21.length : Int).toNat - 0)), z21)).bind fun y28 =>
                                          some y28
                                      else none
                                    else
                                      some false
                                  else
                                    some false
                              else
                                some false
                            else
                              some false
            else
              some false
          | (.inr y29) =>
            if (!y1) = false then
              some false
            else
              some false
      else
        (Fk11 4).bind fun
          | (.inl (y30, y31)) =>
            if (!y1) = false then
              if (y31 != 0) = true then
                some false
              else
                (loopO stepk4_0 (a0, a1, 4, 0, (y30.1, y30.2.1, y30.2.2.1, y30.2.2.2.1, y30.2.2.2.2), ([] : List Int))).bind fun
                  | (.inl z32) =>
                    some z32
                  | (.inr (z33, z34, z35, z36)) =>
                    (loopO stepk4_1 (z33, z34, 0, (z35.1, z35.2.1, z35.2.2.1, z35.2.2.2.1, z35.2.2.2.2), z36, ([] : List Int))).bind fun
                      | (.inl z37) =>
                        some z37
                      | (.inr (z38, z39, z40)) =>
                        (Fk14 (z38, z39, (z40.length : Int))).bind fun (y41, y42) =>
                          (Fk14 (z38, z39, (IntKind.i64.wrap ((z40.length : Int) + 37)))).bind fun (y43, y44) =>
                            if (y42 == 0) = true then
                              if (y44 == 0) = true then
                                (Fk15 (y41, z40)).bind fun y45 =>
                                  if y45 = true then
                                    let x46 : Bool := ((y43.length : Int) == (IntKind.i64.wrap ((z40.length : Int) + 37)))
                                    if x46 = true then
                                      if (0 : Int) ≤ (z40.length : Int) ∧ (z40.length : Int) ≤ (y43.length : Int) then
                                        (Fk15 (((y43.drop 0).take ((z40.length : Int).toNat - 0)), z40)).bind fun y47 =>
                                          some y47
                                      else none
                                    else
                                      some false
                                  else
                                    some false
                              else
                                some false
                            else
                              some false
            else
              some false
          | (.inr y48) =>
            if (!y1) = false then
              some false
            else
              some false

noncomputable def annk4 : Ann := (.seq .none (.seq .none (.seq .none (.seq .none (.seq .none (.seq .none (.seq .none (.seq (.seq .none (.seq (.cut (cutEnt lk4_0 ok4_0 (loopO (stepk4_0)))) .none)) (.seq .none (.seq (.seq .none (.seq (.cut (cutEnt lk4_1 ok4_1 (loopO (stepk4_1)))) .none)) .none))))))))))
theorem eqk4_0 : ∀ s : lk4_0.T, exec ktab (ofL Ek15) 144 (Code.at' [1, 1, 1, 1, 1, 1, 1, 0, 1, 0, 0] bodyk4) annk4_0 (fun e st => loopEnd (l := lk4_0) (outs := ok4_0) e st) (lk4_0.enc s) = stepk4_0 s := by
  rintro ⟨t0, t1, t8, t12, r1028, r11⟩
  kernel_rfl
theorem okk4_0 : LOk Go.Proofs.Try.prog 144 (cutEnt lk4_0 ok4_0 (loopO stepk4_0)) (Code.at' [1, 1, 1, 1, 1, 1, 1, 0, 1, 0] bodyk4) := by
  have e : Code.at' [1, 1, 1, 1, 1, 1, 1, 0, 1, 0] bodyk4 = .loop (Code.at' [1, 1, 1, 1, 1, 1, 1, 0, 1, 0, 0] bodyk4) := by kernel_rfl
  rw [e]
  refine loop_ok ck4 144 rfl rfl (annOk_of_cuts ?_) eqk4_0
  intro x hx
  exact absurd hx (by show x ∉ ([] : List (List Nat × LEnt)); simp)

theorem eqk4_1 : ∀ s : lk4_1.T, exec ktab (ofL Ek15) 144 (Code.at' [1, 1, 1, 1, 1, 1, 1, 1, 1, 0, 1, 0, 0] bodyk4) annk4_1 (fun e st => loopEnd (l := lk4_1) (outs := ok4_1) e st) (lk4_1.enc s) = stepk4_1 s := by
  rintro ⟨t1, t8, t14, r1028, r11, r13⟩
  kernel_rfl
theorem okk4_1 : LOk Go.Proofs.Try.prog 144 (cutEnt lk4_1 ok4_1 (loopO stepk4_1)) (Code.at' [1, 1, 1, 1, 1, 1, 1, 1, 1, 0, 1, 0] bodyk4) := by
  have e : Code.at' [1, 1, 1, 1, 1, 1, 1, 1, 1, 0, 1, 0] bodyk4 = .loop (Code.at' [1, 1, 1, 1, 1, 1, 1, 1, 1, 0, 1, 0, 0] bodyk4) := by kernel_rfl
  rw [e]
  refine loop_ok ck4 144 rfl rfl (annOk_of_cuts ?_) eqk4_1
  intro x hx
  exact absurd hx (by show x ∉ ([] : List (List Nat × LEnt)); simp)

theorem eqk4 : ∀ x : Sk4.inT, exec ktab (ofL Ek15) 144 bodyk4 annk4 (finL ktab Sk4) (Sk4.inp.enc x) = Fk4 x := by
  rintro ⟨a0, a1, a2⟩
  kernel_rfl
theorem callsk4 : CallsL Go.Proofs.Try.prog 4 Sk4 Fk4 := by
  refine fun_callsL (fn := Go.Proofs.Try.f4) (c := bodyk4) (ann := annk4) ck4 (by kernel_rfl) (by kernel_rfl) (by kernel_rfl) (by kernel_rfl) (by kernel_rfl) (annOk_of_cuts ?_) eqk4
  have hc : Ann.cuts annk4 = [([1, 1, 1, 1, 1, 1, 1, 0, 1, 0], (cutEnt lk4_0 ok4_0 (loopO (stepk4_0)))), ([1, 1, 1, 1, 1, 1, 1, 1, 1, 0, 1, 0], (cutEnt lk4_1 ok4_1 (loopO (stepk4_1))))] := by kernel_rfl
  rw [hc]
  intro x hx
  simp only [List.mem_cons, List.not_mem_nil, or_false] at hx
  rcases hx with rfl | rfl
  · have e : Code.at' [1, 1, 1, 1, 1, 1, 1, 0, 1, 0] bodyk4 = Code.at' [1, 1, 1, 1, 1, 1, 1, 0, 1, 0] bodyk4 := by kernel_rfl
    rw [e]; exact okk4_0
  · have e : Code.at' [1, 1, 1, 1, 1, 1, 1, 1, 1, 0, 1, 0] bodyk4 = Code.at' [1, 1, 1, 1, 1, 1, 1, 1, 1, 0, 1, 0] bodyk4 := by kernel_rfl
    rw [e]; exact okk4_1

theorem entk4 : EntOk Go.Proofs.Try.prog 4 (funEntL Sk4 true Fk4) := fun_okL (fn := Go.Proofs.Try.f4) (c := bodyk4) (by kernel_rfl) (by kernel_rfl) (by kernel_rfl) (by kernel_rfl) callsk4
noncomputable def Ek4 : List (Nat × Ent) := (4, funEntL Sk4 true Fk4) :: Ek15
theorem Ek4_ok : EntsOk Go.Proofs.Try.prog (ofL Ek4) := .cons entk4 Ek15_ok

/-! ### barbican/barbicanlaw03.own -/
noncomputable def bodyk16 : Code := (Go.Proofs.Try.f16.body).getD .skip
abbrev Sk16 : FL := ⟨⟨[], [.env 0 (.c (.fz (.int .u8)))], []⟩, 1, [(.ret, ⟨[], [.env 0 (.c (.sl0 1)), .reg 1 (.row 5 .u8)], [(1, .env 0 0)]⟩)], [.tmp 2], false⟩
noncomputable def ck16 : Ctx Go.Proofs.Try.prog := ⟨ktab, ofL Ek4, ktabOk, Ek4_ok, kdep, kord⟩
noncomputable def Fk16 : (List Int) → Option ((Nat × List Int))
  | a0 =>
    if okBytes ((List.replicate 0 (0 : Int)).length + a0.length) 1 then
      if okBytes (((List.replicate 0 (0 : Int)) ++ a0).length + ((List.replicate 1 (0 : Int)).set 0 77).length) 1 then
        let f1 : List Int := (((List.replicate 0 (0 : Int)) ++ a0) ++ ((List.replicate 1 (0 : Int)).set 0 77))
        if (0 : Int) ≤ (a0.length : Int) ∧ (a0.length : Int) ≤ (f1.length : Int) then
          some (((a0.length : Int).toNat - 0), f1)
        else none
      else none
    else none

noncomputable def annk16 : Ann := .none
theorem eqk16 : ∀ x : Sk16.inT, exec ktab (ofL Ek4) 11 bodyk16 annk16 (finL ktab Sk16) (Sk16.inp.enc x) = Fk16 x := by
  intro x
  kernel_rfl
theorem callsk16 : CallsL Go.Proofs.Try.prog 16 Sk16 Fk16 := by
  refine fun_callsL (fn := Go.Proofs.Try.f16) (c := bodyk16) (ann := annk16) ck16 (by kernel_rfl) (by kernel_rfl) (by kernel_rfl) (by kernel_rfl) (by kernel_rfl) (annOk_of_cuts ?_) eqk16
  intro x hx
  exact absurd hx (by show x ∉ ([] : List (List Nat × LEnt)); simp)

theorem entk16 : EntOk Go.Proofs.Try.prog 16 (funEntL Sk16 true Fk16) := fun_okL (fn := Go.Proofs.Try.f16) (c := bodyk16) (by kernel_rfl) (by kernel_rfl) (by kernel_rfl) (by kernel_rfl) callsk16
noncomputable def Ek16 : List (Nat × Ent) := (16, funEntL Sk16 true Fk16) :: Ek4
theorem Ek16_ok : EntsOk Go.Proofs.Try.prog (ofL Ek16) := .cons entk16 Ek4_ok

/-! ### barbican/keccak.Sum512 -/
noncomputable def bodyk18 : Code := (Go.Proofs.Try.f18.body).getD .skip
abbrev Sk18 : FL := ⟨⟨[], [.env 0 (.c (.fz (.int .u8)))], []⟩, 1, [(.ret, ⟨[], [.env 0 (.agg [.ints .u8 64])], []⟩)], [.cell 2 43], false⟩
noncomputable def ck18 : Ctx Go.Proofs.Try.prog := ⟨ktab, ofL Ek16, ktabOk, Ek16_ok, kdep, kord⟩
noncomputable def Fk18 : (List Int) → Option (((Nat → Int)))
  | a0 =>
    (Fk31 (3, a0, 64)).bind fun y1 =>
      if (64 : Int) ≤ (y1.length : Int) then
        some (fun j => y1.getD (0 + j) 0)
      else none

noncomputable def annk18 : Ann := .none
theorem eqk18 : ∀ x : Sk18.inT, exec ktab (ofL Ek16) 7 bodyk18 annk18 (finL ktab Sk18) (Sk18.inp.enc x) = Fk18 x := by
  intro x
  kernel_rfl
theorem callsk18 : CallsL Go.Proofs.Try.prog 18 Sk18 Fk18 := by
  refine fun_callsL (fn := Go.Proofs.Try.f18) (c := bodyk18) (ann := annk18) ck18 (by kernel_rfl) (by kernel_rfl) (by kernel_rfl) (by kernel_rfl) (by kernel_rfl) (annOk_of_cuts ?_) eqk18
  intro x hx
  exact absurd hx (by show x ∉ ([] : List (List Nat × LEnt)); simp)

theorem entk18 : EntOk Go.Proofs.Try.prog 18 (funEntL Sk18 true Fk18) := fun_okL (fn := Go.Proofs.Try.f18) (c := bodyk18) (by kernel_rfl) (by kernel_rfl) (by kernel_rfl) (by kernel_rfl) callsk18
noncomputable def Ek18 : List (Nat × Ent) := (18, funEntL Sk18 true Fk18) :: Ek16
theorem Ek18_ok : EntsOk Go.Proofs.Try.prog (ofL Ek18) := .cons entk18 Ek16_ok

/-! ### barbican/barbicanlaw03.still -/
noncomputable def bodyk19 : Code := (Go.Proofs.Try.f19.body).getD .skip
abbrev Sk19 : FL := ⟨⟨[], [.env 0 (.c (.fzn (.int .u8))), .env 1 (.c (.fz (.int .u8)))], []⟩, 2, [(.ret, ⟨[], [.env 0 (.c (.bool))], []⟩)], [.tmp 4], false⟩
noncomputable def ck19 : Ctx Go.Proofs.Try.prog := ⟨ktab, ofL Ek18, ktabOk, Ek18_ok, kdep, kord⟩
noncomputable def Fk19 : (List Int × Nat) × (List Int) → Option ((Bool))
  | (a0, a1) =>
    (Fk15 ((a0.1.take a0.2), a1)).bind fun y1 =>
      if y1 = true then
        if (0 : Int) ≤ (IntKind.i64.wrap ((a1.length : Int) + 1)) ∧ (IntKind.i64.wrap ((a1.length : Int) + 1)) ≤ (a0.1.length : Int) then
          if (0 : Int) ≤ (a1.length : Int) ∧ (a1.length : Int) < (((IntKind.i64.wrap ((a1.length : Int) + 1)).toNat : Nat) : Int) then
            some ((a0.1.getD (a1.length : Int).toNat 0) == 77)
          else none
        else none
      else
        some false

noncomputable def annk19 : Ann := .none
theorem eqk19 : ∀ x : Sk19.inT, exec ktab (ofL Ek18) 22 bodyk19 annk19 (finL ktab Sk19) (Sk19.inp.enc x) = Fk19 x := by
  rintro ⟨a0, a1⟩
  kernel_rfl
theorem callsk19 : CallsL Go.Proofs.Try.prog 19 Sk19 Fk19 := by
  refine fun_callsL (fn := Go.Proofs.Try.f19) (c := bodyk19) (ann := annk19) ck19 (by kernel_rfl) (by kernel_rfl) (by kernel_rfl) (by kernel_rfl) (by kernel_rfl) (annOk_of_cuts ?_) eqk19
  intro x hx
  exact absurd hx (by show x ∉ ([] : List (List Nat × LEnt)); simp)

theorem entk19 : EntOk Go.Proofs.Try.prog 19 (funEntL Sk19 true Fk19) := fun_okL (fn := Go.Proofs.Try.f19) (c := bodyk19) (by kernel_rfl) (by kernel_rfl) (by kernel_rfl) (by kernel_rfl) callsk19
noncomputable def Ek19 : List (Nat × Ent) := (19, funEntL Sk19 true Fk19) :: Ek18
theorem Ek19_ok : EntsOk Go.Proofs.Try.prog (ofL Ek19) := .cons entk19 Ek18_ok

/-! ### barbican/barbicanref03.Kind -/
noncomputable def bodyk33 : Code := (Go.Proofs.Try.f33.body).getD .skip
abbrev Sk33 : FL := ⟨⟨[], [.env 0 (.c (.int .i64))], []⟩, 1, [(.ret, ⟨[], [.env 0 (.c (.int .i64)), .env 1 (.c (.int .u8)), .env 2 (.c (.int .i64)), .env 3 (.c (.bool))], []⟩)], [.tmp 2, .tmp 3, .tmp 4, .tmp 5], false⟩
noncomputable def ck33 : Ctx Go.Proofs.Try.prog := ⟨ktab, ofL Ek19, ktabOk, Ek19_ok, kdep, kord⟩
noncomputable def Fk33 : Int → Option ((Int × Int × Int × Bool))
  | a0 =>
    if (a0 == 1) = true then
      some (136, 6, 32, true)
    else
      if (a0 == 2) = true then
        some (104, 6, 48, true)
      else
        if (a0 == 3) = true then
          some (72, 6, 64, true)
        else
          if (a0 == 4) = true then
            some (168, 31, (-1), true)
          else
            if (a0 == 5) = true then
              some (136, 31, (-1), true)
            else
              some (0, 0, 0, false)

noncomputable def annk33 : Ann := .none
theorem eqk33 : ∀ x : Sk33.inT, exec ktab (ofL Ek19) 17 bodyk33 annk33 (finL ktab Sk33) (Sk33.inp.enc x) = Fk33 x := by
  intro x
  kernel_rfl
theorem callsk33 : CallsL Go.Proofs.Try.prog 33 Sk33 Fk33 := by
  refine fun_callsL (fn := Go.Proofs.Try.f33) (c := bodyk33) (ann := annk33) ck33 (by kernel_rfl) (by kernel_rfl) (by kernel_rfl) (by kernel_rfl) (by kernel_rfl) (annOk_of_cuts ?_) eqk33
  intro x hx
  exact absurd hx (by show x ∉ ([] : List (List Nat × LEnt)); simp)

theorem entk33 : EntOk Go.Proofs.Try.prog 33 (funEntL Sk33 true Fk33) := fun_okL (fn := Go.Proofs.Try.f33) (c := bodyk33) (by kernel_rfl) (by kernel_rfl) (by kernel_rfl) (by kernel_rfl) callsk33
noncomputable def Ek33 : List (Nat × Ent) := (33, funEntL Sk33 true Fk33) :: Ek19
theorem Ek33_ok : EntsOk Go.Proofs.Try.prog (ofL Ek33) := .cons entk33 Ek19_ok

/-! ### (*barbican/barbicanref03.Sponge).begin -/
noncomputable def bodyk35 : Code := (Go.Proofs.Try.f35.body).getD .skip
abbrev Sk35 : FL := ⟨⟨[(0, .ptr 1000000 0 30)], [.reg 1000000 (.cells [.int .i64, .fz (.int .u8), .bool, .int .i64, .ints .u64 25, .int .i64])], [(1000000, .env 0 0)]⟩, 1, [(.ret, ⟨[], [.reg 1000000 (.cells [.int .i64, .junk 1, .bool, .int .i64, .ints .u64 25, .int .i64])], []⟩)], [], false⟩
noncomputable def ck35 : Ctx Go.Proofs.Try.prog := ⟨ktab, ofL Ek33, ktabOk, Ek33_ok, kdep, kord⟩
abbrev lk35_0 : Lay := ⟨[(0, .ptr 1000000 0 30), (6, .full 28)], [.env 2 (.c (.int .i64)), .reg 1000000 (.cells [.int .i64, .fz (.int .u8), .bool, .int .i64, .ints .u64 25, .int .i64]), .reg 28 (.row 5 .u8)], [(28, .env 6 0)]⟩
abbrev ok35_0 : List (AExit × Lay) := [(.exit 0, ⟨[(0, .ptr 1000000 0 30), (6, .full 28)], [.env 2 (.c (.int .i64)), .reg 1000000 (.cells [.int .i64, .fz (.int .u8), .bool, .int .i64, .ints .u64 25, .int .i64]), .reg 28 (.row 5 .u8)], [(28, .env 6 0)]⟩)]
noncomputable def stepk35_0 : Int × (Int × (List Int) × Bool × Int × (Nat → Int) × Int) × List Int → Option ((Int × (Int × (List Int) × Bool × Int × (Nat → Int) × Int) × List Int) ⊕ ((Int × (Int × (List Int) × Bool × Int × (Nat → Int) × Int) × List Int)))
  | (t2, r1000000, r28) =>
    if t2 ≠ 0 then
      if (((r28.length : Int).tmod t2) != 0) = true then
        if okBytes (r28.length + ((List.replicate 1 (0 : Int)).set 0 0).length) 1 then
          some (.inl (t2, (r1000000.1, r1000000.2.1, r1000000.2.2.1, r1000000.2.2.2.1, r1000000.2.2.2.2.1, r1000000.2.2.2.2.2), (r28 ++ ((List.replicate 1 (0 : Int)).set 0 0))))
        else none
      else
        some (.inr (t2, (r1000000.1, r1000000.2.1, r1000000.2.2.1, r1000000.2.2.2.1, r1000000.2.2.2.2.1, r1000000.2.2.2.2.2), r28))
    else none

noncomputable def annk35_0 : Ann := .none
abbrev lk35_2 : Lay := ⟨[(0, .ptr 1000000 0 30), (6, .full 28)], [.env 2 (.c (.int .i64)), .env 7 (.c (.int .i64)), .env 8 (.c (.int .i64)), .reg 1000000 (.cells [.int .i64, .fz (.int .u8), .bool, .int .i64, .ints .u64 25, .int .i64]), .reg 28 (.row 5 .u8)], [(28, .env 6 0)]⟩
abbrev ok35_2 : List (AExit × Lay) := [(.exit 4, ⟨[(0, .ptr 1000000 0 30), (6, .full 28)], [.env 2 (.c (.int .i64)), .env 7 (.c (.int .i64)), .reg 1000000 (.cells [.int .i64, .fz (.int .u8), .bool, .int .i64, .ints .u64 25, .int .i64]), .reg 28 (.row 5 .u8)], [(28, .env 6 0)]⟩)]
noncomputable def stepk35_2 : Int × Int × Int × (Int × (List Int) × Bool × Int × (Nat → Int) × Int) × List Int → Option ((Int × Int × Int × (Int × (List Int) × Bool × Int × (Nat → Int) × Int) × List Int) ⊕ ((Int × Int × (Int × (List Int) × Bool × Int × (Nat → Int) × Int) × List Int)))
  | (t2, t7, t8, r1000000, r28) =>
    if (decide (t8 < t2)) = true then
      if (0 : Int) ≤ (IntKind.i64.wrap (t8.tdiv 8)) ∧ (IntKind.i64.wrap (t8.tdiv 8)) < ((25 : Int) : Int) then
        if (0 : Int) ≤ (IntKind.i64.wrap (t7 + t8)) ∧ (IntKind.i64.wrap (t7 + t8)) < (r28.length : Int) then
          let x10 : Int := (IntKind.u64.wrap (r28.getD (IntKind.i64.wrap (t7 + t8)).toNat 0))
          if 0 ≤ (IntKind.u64.wrap (IntKind.i64.wrap ((t8.tmod 8) * 8))) then
            let x11 : Int := (shlI .u64 x10 (IntKind.u64.wrap (IntKind.i64.wrap ((t8.tmod 8) * 8))))
            let x12 : Int := (bitsXor .u64 (r1000000.2.2.2.2.1 (IntKind.i64.wrap (t8.tdiv 8)).toNat) x11)
            if (0 : Int) ≤ (IntKind.i64.wrap (t8.tdiv 8)) ∧ (IntKind.i64.wrap (t8.tdiv 8)) < ((25 : Int) : Int) then
              let f13 : Nat → Int := (upd r1000000.2.2.2.2.1 (IntKind.i64.wrap (t8.tdiv 8)).toNat x12)
              some (.inl (t2, t7, (IntKind.i64.wrap (t8 + 1)), (r1000000.1, r1000000.2.1, r1000000.2.2.1, r1000000.2.2.2.1, f13, r1000000.2.2.2.2.2), r28))
            else none
          else none
        else none
      else none
    else
      some (.inr (t2, t7, (r1000000.1, r1000000.2.1, r1000000.2.2.1, r1000000.2.2.2.1, r1000000.2.2.2.2.1, r1000000.2.2.2.2.2), r28))

noncomputable def annk35_2 : Ann := .none
abbrev lk35_1 : Lay := ⟨[(0, .ptr 1000000 0 30), (6, .full 28)], [.env 2 (.c (.int .i64)), .env 7 (.c (.int .i64)), .reg 1000000 (.cells [.int .i64, .fz (.int .u8), .bool, .int .i64, .ints .u64 25, .int .i64]), .reg 28 (.row 5 .u8)], [(28, .env 6 0)]⟩
abbrev ok35_1 : List (AExit × Lay) := [(.exit 2, ⟨[(0, .ptr 1000000 0 30)], [.reg 1000000 (.cells [.int .i64, .fz (.int .u8), .bool, .int .i64, .ints .u64 25, .int .i64])], []⟩)]
noncomputable def stepk35_1 : Int × Int × (Int × (List Int) × Bool × Int × (Nat → Int) × Int) × List Int → Option ((Int × Int × (Int × (List Int) × Bool × Int × (Nat → Int) × Int) × List Int) ⊕ ((Int × (List Int) × Bool × Int × (Nat → Int) × Int)))
  | (t2, t7, r1000000, r28) =>
    if (decide (t7 < (r28.length : Int))) = true then
      (loopO stepk35_2 (t2, t7, 0, (r1000000.1, r1000000.2.1, r1000000.2.2.1, r1000000.2.2.2.1, r1000000.2.2.2.2.1, r1000000.2.2.2.2.2), r28)).bind fun (z14, z15, z16, z17) =>
        (Fk10 z16.2.2.2.2.1).bind fun y18 =>
          some (.inl (z14, (IntKind.i64.wrap (z15 + z14)), (z16.1, z16.2.1, z16.2.2.1, z16.2.2.2.1, y18, z16.2.2.2.2.2), z17))
    else
      some (.inr (r1000000.1, r1000000.2.1, r1000000.2.2.1, r1000000.2.2.2.1, r1000000.2.2.2.2.1, r1000000.2.2.2.2.2))

noncomputable def annk35_1 : Ann := (.seq .none (.seq (.seq (.seq (.seq .none (.seq (.cut (cutEnt lk35_2 ok35_2 (loopO (stepk35_2)))) .none)) .none) .none) .none))
noncomputable def Fk35 : Int × (List Int) × Bool × Int × (Nat → Int) × Int → Option ((Int × Unit × Bool × Int × (Nat → Int) × Int))
  | io =>
    (Fk33 io.1).bind fun (y1, y2, y3, y4) =>
      if okBytes (([] : List Int).length + io.2.1.length) 1 then
        if okBytes ((([] : List Int) ++ io.2.1).length + ((List.replicate 1 (0 : Int)).set 0 y2).length) 1 then
          let f5 : List Int := ((([] : List Int) ++ io.2.1) ++ ((List.replicate 1 (0 : Int)).set 0 y2))
          (loopO stepk35_0 (y1, (io.1, io.2.1, io.2.2.1, io.2.2.2.1, io.2.2.2.2.1, io.2.2.2.2.2), f5)).bind fun (z6, z7, z8) =>
            if (0 : Int) ≤ (IntKind.i64.wrap ((z8.length : Int) - 1)) ∧ (IntKind.i64.wrap ((z8.length : Int) - 1)) < (z8.length : Int) then
              let x9 : Int := (bitsXor .u8 (z8.getD (IntKind.i64.wrap ((z8.length : Int) - 1)).toNat 0) 128)
              if (0 : Int) ≤ (IntKind.i64.wrap ((z8.length : Int) - 1)) ∧ (IntKind.i64.wrap ((z8.length : Int) - 1)) < (z8.length : Int) then
                (loopO stepk35_1 (z6, 0, (z7.1, z7.2.1, z7.2.2.1, z7.2.2.2.1, (fun _ => 0), z7.2.2.2.2.2), (z8.set (IntKind.i64.wrap ((z8.length : Int) - 1)).toNat x9))).bind fun z19 =>
                  some (z19.1, (), z19.2.2.1, z19.2.2.2.1, z19.2.2.2.2.1, 0)
              else none
            else none
        else none
      else none

noncomputable def annk35 : Ann := (.seq .none (.seq .none (.seq .none (.seq .none (.seq (.seq (.cut (cutEnt lk35_0 ok35_0 (loopO (stepk35_0)))) .none) (.seq .none (.seq .none (.seq (.seq .none (.seq (.cut (cutEnt lk35_1 ok35_1 (loopO (stepk35_1)))) .none)) .none))))))))
theorem eqk35_0 : ∀ s : lk35_0.T, exec ktab (ofL Ek33) 102 (Code.at' [1, 1, 1, 1, 0, 0, 0] bodyk35) annk35_0 (fun e st => loopEnd (l := lk35_0) (outs := ok35_0) e st) (lk35_0.enc s) = stepk35_0 s := by
  rintro ⟨t2, r1000000, r28⟩
  kernel_rfl
theorem okk35_0 : LOk Go.Proofs.Try.prog 102 (cutEnt lk35_0 ok35_0 (loopO stepk35_0)) (Code.at' [1, 1, 1, 1, 0, 0] bodyk35) := by
  have e : Code.at' [1, 1, 1, 1, 0, 0] bodyk35 = .loop (Code.at' [1, 1, 1, 1, 0, 0, 0] bodyk35) := by kernel_rfl
  rw [e]
  refine loop_ok ck35 102 rfl rfl (annOk_of_cuts ?_) eqk35_0
  intro x hx
  exact absurd hx (by show x ∉ ([] : List (List Nat × LEnt)); simp)

theorem eqk35_2 : ∀ s : lk35_2.T, exec ktab (ofL Ek33) 102 (Code.at' [1, 1, 1, 1, 1, 1, 1, 0, 1, 0, 0, 1, 0, 0, 0, 1, 0, 0] bodyk35) annk35_2 (fun e st => loopEnd (l := lk35_2) (outs := ok35_2) e st) (lk35_2.enc s) = stepk35_2 s := by
  rintro ⟨t2, t7, t8, r1000000, r28⟩
  kernel_rfl
theorem okk35_2 : LOk Go.Proofs.Try.prog 102 (cutEnt lk35_2 ok35_2 (loopO stepk35_2)) (Code.at' [1, 1, 1, 1, 1, 1, 1, 0, 1, 0, 0, 1, 0, 0, 0, 1, 0] bodyk35) := by
  have e : Code.at' [1, 1, 1, 1, 1, 1, 1, 0, 1, 0, 0, 1, 0, 0, 0, 1, 0] bodyk35 = .loop (Code.at' [1, 1, 1, 1, 1, 1, 1, 0, 1, 0, 0, 1, 0, 0, 0, 1, 0, 0] bodyk35) := by kernel_rfl
  rw [e]
  refine loop_ok ck35 102 rfl rfl (annOk_of_cuts ?_) eqk35_2
  intro x hx
  exact absurd hx (by show x ∉ ([] : List (List Nat × LEnt)); simp)

theorem eqk35_1 : ∀ s : lk35_1.T, exec ktab (ofL Ek33) 102 (Code.at' [1, 1, 1, 1, 1, 1, 1, 0, 1, 0, 0] bodyk35) annk35_1 (fun e st => loopEnd (l := lk35_1) (outs := ok35_1) e st) (lk35_1.enc s) = stepk35_1 s := by
  rintro ⟨t2, t7, r1000000, r28⟩
  kernel_rfl
theorem okk35_1 : LOk Go.Proofs.Try.prog 102 (cutEnt lk35_1 ok35_1 (loopO stepk35_1)) (Code.at' [1, 1, 1, 1, 1, 1, 1, 0, 1, 0] bodyk35) := by
  have e : Code.at' [1, 1, 1, 1, 1, 1, 1, 0, 1, 0] bodyk35 = .loop (Code.at' [1, 1, 1, 1, 1, 1, 1, 0, 1, 0, 0] bodyk35) := by kernel_rfl
  rw [e]
  refine loop_ok ck35 102 rfl rfl (annOk_of_cuts ?_) eqk35_1
  have hc : Ann.cuts annk35_1 = [([1, 0, 0, 0, 1, 0], (cutEnt lk35_2 ok35_2 (loopO (stepk35_2))))] := by kernel_rfl
  rw [hc]
  intro x hx
  simp only [List.mem_cons, List.not_mem_nil, or_false] at hx
  rcases hx with rfl
  · have e : Code.at' [1, 0, 0, 0, 1, 0] (Code.at' [1, 1, 1, 1, 1, 1, 1, 0, 1, 0, 0] bodyk35) = Code.at' [1, 1, 1, 1, 1, 1, 1, 0, 1, 0, 0, 1, 0, 0, 0, 1, 0] bodyk35 := by kernel_rfl
    rw [e]; exact okk35_2

theorem eqk35 : ∀ x : Sk35.inT, exec ktab (ofL Ek33) 102 bodyk35 annk35 (finL ktab Sk35) (Sk35.inp.enc x) = Fk35 x := by
  intro x
  kernel_rfl
theorem callsk35 : CallsL Go.Proofs.Try.prog 35 Sk35 Fk35 := by
  refine fun_callsL (fn := Go.Proofs.Try.f35) (c := bodyk35) (ann := annk35) ck35 (by kernel_rfl) (by kernel_rfl) (by kernel_rfl) (by kernel_rfl) (by kernel_rfl) (annOk_of_cuts ?_) eqk35
  have hc : Ann.cuts annk35 = [([1, 1, 1, 1, 0, 0], (cutEnt lk35_0 ok35_0 (loopO (stepk35_0)))), ([1, 1, 1, 1, 1, 1, 1, 0, 1, 0], (cutEnt lk35_1 ok35_1 (loopO (stepk35_1))))] := by kernel_rfl
  rw [hc]
  intro x hx
  simp only [List.mem_cons, List.not_mem_nil, or_false] at hx
  rcases hx with rfl | rfl
  · have e : Code.at' [1, 1, 1, 1, 0, 0] bodyk35 = Code.at' [1, 1, 1, 1, 0, 0] bodyk35 := by kernel_rfl
    rw [e]; exact okk35_0
  · have e : Code.at' [1, 1, 1, 1, 1, 1, 1, 0, 1, 0] bodyk35 = Code.at' [1, 1, 1, 1, 1, 1, 1, 0, 1, 0] bodyk35 := by kernel_rfl
    rw [e]; exact okk35_1

theorem entk35 : EntOk Go.Proofs.Try.prog 35 (funEntL Sk35 true Fk35) := fun_okL (fn := Go.Proofs.Try.f35) (c := bodyk35) (by kernel_rfl) (by kernel_rfl) (by kernel_rfl) (by kernel_rfl) callsk35
noncomputable def Ek35 : List (Nat × Ent) := (35, funEntL Sk35 true Fk35) :: Ek33
theorem Ek35_ok : EntsOk Go.Proofs.Try.prog (ofL Ek35) := .cons entk35 Ek33_ok

/-! ### barbican/barbicanref03.byteOf -/
noncomputable def bodyk36 : Code := (Go.Proofs.Try.f36.body).getD .skip
abbrev Sk36 : FL := ⟨⟨[], [.env 0 (.agg [.ints .u64 25]), .env 1 (.c (.int .i64))], []⟩, 2, [(.ret, ⟨[], [.env 0 (.c (.int .u8))], []⟩)], [.tmp 4], false⟩
noncomputable def ck36 : Ctx Go.Proofs.Try.prog := ⟨ktab, ofL Ek35, ktabOk, Ek35_ok, kdep, kord⟩
noncomputable def Fk36 : (Nat → Int) × Int → Option ((Int))
  | (a0, a1) =>
    if (0 : Int) ≤ (IntKind.i64.wrap (a1.tdiv 8)) ∧ (IntKind.i64.wrap (a1.tdiv 8)) < ((25 : Int) : Int) then
      if 0 ≤ (IntKind.u64.wrap (IntKind.i64.wrap ((a1.tmod 8) * 8))) then
        let x1 : Int := (shrI .u64 (a0 (IntKind.i64.wrap (a1.tdiv 8)).toNat) (IntKind.u64.wrap (IntKind.i64.wrap ((a1.tmod 8) * 8))))
        some (IntKind.u8.wrap x1)
      else none
    else none

noncomputable def annk36 : Ann := .none
theorem eqk36 : ∀ x : Sk36.inT, exec ktab (ofL Ek35) 15 bodyk36 annk36 (finL ktab Sk36) (Sk36.inp.enc x) = Fk36 x := by
  rintro ⟨a0, a1⟩
  kernel_rfl
theorem callsk36 : CallsL Go.Proofs.Try.prog 36 Sk36 Fk36 := by
  refine fun_callsL (fn := Go.Proofs.Try.f36) (c := bodyk36) (ann := annk36) ck36 (by kernel_rfl) (by kernel_rfl) (by kernel_rfl) (by kernel_rfl) (by kernel_rfl) (annOk_of_cuts ?_) eqk36
  intro x hx
  exact absurd hx (by show x ∉ ([] : List (List Nat × LEnt)); simp)

theorem entk36 : EntOk Go.Proofs.Try.prog 36 (funEntL Sk36 true Fk36) := fun_okL (fn := Go.Proofs.Try.f36) (c := bodyk36) (by kernel_rfl) (by kernel_rfl) (by kernel_rfl) (by kernel_rfl) callsk36
noncomputable def Ek36 : List (Nat × Ent) := (36, funEntL Sk36 true Fk36) :: Ek35
theorem Ek36_ok : EntsOk Go.Proofs.Try.prog (ofL Ek36) := .cons entk36 Ek35_ok

/-! ### (*barbican/barbicanref03.Sponge).Read -/
noncomputable def bodyk32 : Code := (Go.Proofs.Try.f32.body).getD .skip
abbrev Sk32 : FL := ⟨⟨[(0, .ptr 1000000 0 30)], [.reg 1000000 (.cells [.int .i64, .fz (.int .u8), .boolc false, .int .i64, .ints .u64 25, .int .i64]), .env 1 (.c (.int .i64))], [(1000000, .env 0 0)]⟩, 2, [(.ret, ⟨[(0, .full 1)], [.reg 1 (.row 5 .u8), .reg 1000000 (.cells [.int .i64, .junk 1, .bool, .int .i64, .ints .u64 25, .int .i64])], [(1, .env 0 0)]⟩)], [.tmp 4], false⟩
noncomputable def ck32 : Ctx Go.Proofs.Try.prog := ⟨ktab, ofL Ek36, ktabOk, Ek36_ok, kdep, kord⟩
abbrev lk32_1 : Lay := ⟨[(0, .ptr 1000000 0 30), (9, .full 9)], [.env 1 (.c (.int .i64)), .env 5 (.c (.int .i64)), .env 10 (.c (.int .i64)), .reg 1000000 (.cells [.int .i64, .junk 1, .bool, .int .i64, .ints .u64 25, .int .i64]), .reg 9 (.row 5 .u8)], [(9, .env 9 0)]⟩
abbrev ok32_1 : List (AExit × Lay) := [(.exit 2, ⟨[(0, .ptr 1000000 0 30), (9, .full 9)], [.env 1 (.c (.int .i64)), .env 5 (.c (.int .i64)), .env 10 (.c (.int .i64)), .reg 1000000 (.cells [.int .i64, .junk 1, .bool, .int .i64, .ints .u64 25, .int .i64]), .reg 9 (.row 5 .u8)], [(9, .env 9 0)]⟩)]
noncomputable def stepk32_1 : Int × Int × Int × (Int × Unit × Bool × Int × (Nat → Int) × Int) × List Int → Option ((Int × Int × Int × (Int × Unit × Bool × Int × (Nat → Int) × Int) × List Int) ⊕ ((Int × Int × Int × (Int × Unit × Bool × Int × (Nat → Int) × Int) × List Int)))
  | (t1, t5, t10, r1000000, r9) =>
    if t5 ≠ 0 then
      let x6 : Bool := (decide (r1000000.2.2.2.2.2 < (IntKind.i64.wrap (r1000000.2.2.2.1.tdiv t5))))
      if x6 = true then
        (Fk10 r1000000.2.2.2.2.1).bind fun y7 =>
          some (.inl (t1, t5, t10, (r1000000.1, (), r1000000.2.2.1, r1000000.2.2.2.1, y7, (IntKind.i64.wrap (r1000000.2.2.2.2.2 + 1))), r9))
      else
        some (.inr (t1, t5, t10, (r1000000.1, (), r1000000.2.2.1, r1000000.2.2.2.1, r1000000.2.2.2.2.1, r1000000.2.2.2.2.2), r9))
    else none

noncomputable def annk32_1 : Ann := .none
abbrev lk32_0 : Lay := ⟨[(0, .ptr 1000000 0 30), (9, .full 9)], [.env 1 (.c (.int .i64)), .env 5 (.c (.int .i64)), .env 10 (.c (.int .i64)), .reg 1000000 (.cells [.int .i64, .junk 1, .bool, .int .i64, .ints .u64 25, .int .i64]), .reg 9 (.row 5 .u8)], [(9, .env 9 0)]⟩
abbrev ok32_0 : List (AExit × Lay) := [(.exit 0, ⟨[(9, .full 9)], [.reg 9 (.row 5 .u8), .reg 1000000 (.cells [.int .i64, .junk 1, .bool, .int .i64, .ints .u64 25, .int .i64])], [(9, .env 9 0)]⟩)]
noncomputable def stepk32_0 : Int × Int × Int × (Int × Unit × Bool × Int × (Nat → Int) × Int) × List Int → Option ((Int × Int × Int × (Int × Unit × Bool × Int × (Nat → Int) × Int) × List Int) ⊕ ((List Int × (Int × Unit × Bool × Int × (Nat → Int) × Int))))
  | (t1, t5, t10, r1000000, r9) =>
    if (decide (t10 < t1)) = true then
      (loopO stepk32_1 (t1, t5, t10, (r1000000.1, (), r1000000.2.2.1, r1000000.2.2.2.1, r1000000.2.2.2.2.1, r1000000.2.2.2.2.2), r9)).bind fun (z8, z9, z10, z11, z12) =>
        if z9 ≠ 0 then
          (Fk36 (z11.2.2.2.2.1, (z11.2.2.2.1.tmod z9))).bind fun y13 =>
            if okBytes (z12.length + ((List.replicate 1 (0 : Int)).set 0 y13).length) 1 then
              some (.inl (z8, z9, (IntKind.i64.wrap (z10 + 1)), (z11.1, (), z11.2.2.1, (IntKind.i64.wrap (z11.2.2.2.1 + 1)), z11.2.2.2.2.1, z11.2.2.2.2.2), (z12 ++ ((List.replicate 1 (0 : Int)).set 0 y13))))
            else none
        else none
    else
      some (.inr (r9, (r1000000.1, (), r1000000.2.2.1, r1000000.2.2.2.1, r1000000.2.2.2.2.1, r1000000.2.2.2.2.2)))

noncomputable def annk32_0 : Ann := (.seq .none (.seq (.seq (.seq (.seq (.cut (cutEnt lk32_1 ok32_1 (loopO (stepk32_1)))) .none) .none) .none) .none))
noncomputable def Fk32 : (Int × (List Int) × Unit × Int × (Nat → Int) × Int) × Int → Option ((List Int × (Int × Unit × Bool × Int × (Nat → Int) × Int)))
  | (io, a1) =>
    (Fk33 io.1).bind fun (y1, y2, y3, y4) =>
      (Fk35 (io.1, io.2.1, false, io.2.2.2.1, io.2.2.2.2.1, io.2.2.2.2.2)).bind fun y5 =>
        (loopO stepk32_0 (a1, y1, 0, (y5.1, (), true, y5.2.2.2.1, y5.2.2.2.2.1, y5.2.2.2.2.2), ([] : List Int))).bind fun (z14, z15) =>
          some (z14, (z15.1, (), z15.2.2.1, z15.2.2.2.1, z15.2.2.2.2.1, z15.2.2.2.2.2))

noncomputable def annk32 : Ann := (.seq .none (.seq .none (.seq .none (.seq .none (.seq .none (.seq (.seq .none (.seq (.cut (cutEnt lk32_0 ok32_0 (loopO (stepk32_0)))) .none)) .none))))))
theorem eqk32_1 : ∀ s : lk32_1.T, exec ktab (ofL Ek36) 84 (Code.at' [1, 1, 1, 1, 1, 0, 1, 0, 0, 1, 0, 0, 0, 0, 0] bodyk32) annk32_1 (fun e st => loopEnd (l := lk32_1) (outs := ok32_1) e st) (lk32_1.enc s) = stepk32_1 s := by
  rintro ⟨t1, t5, t10, r1000000, r9⟩
  kernel_rfl
theorem okk32_1 : LOk Go.Proofs.Try.prog 84 (cutEnt lk32_1 ok32_1 (loopO stepk32_1)) (Code.at' [1, 1, 1, 1, 1, 0, 1, 0, 0, 1, 0, 0, 0, 0] bodyk32) := by
  have e : Code.at' [1, 1, 1, 1, 1, 0, 1, 0, 0, 1, 0, 0, 0, 0] bodyk32 = .loop (Code.at' [1, 1, 1, 1, 1, 0, 1, 0, 0, 1, 0, 0, 0, 0, 0] bodyk32) := by kernel_rfl
  rw [e]
  refine loop_ok ck32 84 rfl rfl (annOk_of_cuts ?_) eqk32_1
  intro x hx
  exact absurd hx (by show x ∉ ([] : List (List Nat × LEnt)); simp)

theorem eqk32_0 : ∀ s : lk32_0.T, exec ktab (ofL Ek36) 84 (Code.at' [1, 1, 1, 1, 1, 0, 1, 0, 0] bodyk32) annk32_0 (fun e st => loopEnd (l := lk32_0) (outs := ok32_0) e st) (lk32_0.enc s) = stepk32_0 s := by
  rintro ⟨t1, t5, t10, r1000000, r9⟩
  kernel_rfl
theorem okk32_0 : LOk Go.Proofs.Try.prog 84 (cutEnt lk32_0 ok32_0 (loopO stepk32_0)) (Code.at' [1, 1, 1, 1, 1, 0, 1, 0] bodyk32) := by
  have e : Code.at' [1, 1, 1, 1, 1, 0, 1, 0] bodyk32 = .loop (Code.at' [1, 1, 1, 1, 1, 0, 1, 0, 0] bodyk32) := by kernel_rfl
  rw [e]
  refine loop_ok ck32 84 rfl rfl (annOk_of_cuts ?_) eqk32_0
  have hc : Ann.cuts annk32_0 = [([1, 0, 0, 0, 0], (cutEnt lk32_1 ok32_1 (loopO (stepk32_1))))] := by kernel_rfl
  rw [hc]
  intro x hx
  simp only [List.mem_cons, List.not_mem_nil, or_false] at hx
  rcases hx with rfl
  · have e : Code.at' [1, 0, 0, 0, 0] (Code.at' [1, 1, 1, 1, 1, 0, 1, 0, 0] bodyk32) = Code.at' [1, 1, 1, 1, 1, 0, 1, 0, 0, 1, 0, 0, 0, 0] bodyk32 := by kernel_rfl
    rw [e]; exact okk32_1

theorem eqk32 : ∀ x : Sk32.inT, exec ktab (ofL Ek36) 84 bodyk32 annk32 (finL ktab Sk32) (Sk32.inp.enc x) = Fk32 x := by
  rintro ⟨io, a1⟩
  kernel_rfl
theorem callsk32 : CallsL Go.Proofs.Try.prog 32 Sk32 Fk32 := by
  refine fun_callsL (fn := Go.Proofs.Try.f32) (c := bodyk32) (ann := annk32) ck32 (by kernel_rfl) (by kernel_rfl) (by kernel_rfl) (by kernel_rfl) (by kernel_rfl) (annOk_of_cuts ?_) eqk32
  have hc : Ann.cuts annk32 = [([1, 1, 1, 1, 1, 0, 1, 0], (cutEnt lk32_0 ok32_0 (loopO (stepk32_0))))] := by kernel_rfl
  rw [hc]
  intro x hx
  simp only [List.mem_cons, List.not_mem_nil, or_false] at hx
  rcases hx with rfl
  · have e : Code.at' [1, 1, 1, 1, 1, 0, 1, 0] bodyk32 = Code.at' [1, 1, 1, 1, 1, 0, 1, 0] bodyk32 := by kernel_rfl
    rw [e]; exact okk32_0

theorem entk32 : EntOk Go.Proofs.Try.prog 32 (funEntL Sk32 true Fk32) := fun_okL (fn := Go.Proofs.Try.f32) (c := bodyk32) (by kernel_rfl) (by kernel_rfl) (by kernel_rfl) (by kernel_rfl) callsk32
noncomputable def Ek32 : List (Nat × Ent) := (32, funEntL Sk32 true Fk32) :: Ek36
theorem Ek32_ok : EntsOk Go.Proofs.Try.prog (ofL Ek32) := .cons entk32 Ek36_ok

/-! ### barbican/barbicanref03.All -/
noncomputable def bodyk20 : Code := (Go.Proofs.Try.f20.body).getD .skip
abbrev Sk20 : FL := ⟨⟨[], [.env 0 (.c (.int .i64)), .env 1 (.c (.fz (.int .u8))), .env 2 (.c (.int .i64))], []⟩, 3, [(.ret, ⟨[(0, .full 1)], [.reg 1 (.row 5 .u8)], [(1, .env 0 0)]⟩)], [.tmp 6], false⟩
noncomputable def ck20 : Ctx Go.Proofs.Try.prog := ⟨ktab, ofL Ek32, ktabOk, Ek32_ok, kdep, kord⟩
noncomputable def Fk20 : Int × (List Int) × Int → Option ((List Int))
  | (a0, a1, a2) =>
    (Fk32 ((a0, a1, (), 0, (fun _ => 0), 0), a2)).bind fun (y1, y2) =>
      some y1

noncomputable def annk20 : Ann := .none
theorem eqk20 : ∀ x : Sk20.inT, exec ktab (ofL Ek32) 15 bodyk20 annk20 (finL ktab Sk20) (Sk20.inp.enc x) = Fk20 x := by
  rintro ⟨a0, a1, a2⟩
  kernel_rfl
theorem callsk20 : CallsL Go.Proofs.Try.prog 20 Sk20 Fk20 := by
  refine fun_callsL (fn := Go.Proofs.Try.f20) (c := bodyk20) (ann := annk20) ck20 (by kernel_rfl) (by kernel_rfl) (by kernel_rfl) (by kernel_rfl) (by kernel_rfl) (annOk_of_cuts ?_) eqk20
  intro x hx
  exact absurd hx (by show x ∉ ([] : List (List Nat × LEnt)); simp)

theorem entk20 : EntOk Go.Proofs.Try.prog 20 (funEntL Sk20 true Fk20) := fun_okL (fn := Go.Proofs.Try.f20) (c := bodyk20) (by kernel_rfl) (by kernel_rfl) (by kernel_rfl) (by kernel_rfl) callsk20
noncomputable def Ek20 : List (Nat × Ent) := (20, funEntL Sk20 true Fk20) :: Ek32
theorem Ek20_ok : EntsOk Go.Proofs.Try.prog (ofL Ek20) := .cons entk20 Ek32_ok

/-! ### barbican/barbicanlaw03.KecSums -/
noncomputable def bodyk5 : Code := (Go.Proofs.Try.f5.body).getD .skip
abbrev Sk5 : FL := ⟨⟨[], [.env 0 (.c (.fz (.int .u8))), .env 1 (.c (.int .i64)), .env 2 (.c (.int .i64))], []⟩, 3, [(.ret, ⟨[], [.env 0 (.c (.bool))], []⟩)], [.tmp 6], false⟩
noncomputable def ck5 : Ctx Go.Proofs.Try.prog := ⟨ktab, ofL Ek20, ktabOk, Ek20_ok, kdep, kord⟩
noncomputable def Fk5 : (List Int) × Int × Int → Option ((Bool))
  | (a0, a1, a2) =>
    (Fk8 ()).bind fun y1 =>
      (Fk16 a0).bind fun (y2, y3) =>
        (Fk17 ((y3.drop 0).take y2)).bind fun y4 =>
          (Fk18 ((y3.drop 0).take y2)).bind fun y5 =>
            (Fk14 (a1, ((y3.drop 0).take y2), a2)).bind fun (y6, y7) =>
              (Fk19 ((y3, y2), a0)).bind fun y8 =>
                (Fk20 (1, a0, 32)).bind fun y9 =>
                  (Fk15 (((List.range 32).map (fun j => y4 (0 + j))), y9)).bind fun y10 =>
                    (Fk20 (3, a0, 64)).bind fun y11 =>
                      (Fk15 (((List.range 64).map (fun j => y5 (0 + j))), y11)).bind fun y12 =>
                        if (!y1) = false then
                          if (!y8) = false then
                            if (!y10) = false then
                              if (!y12) = true then
                                some false
                              else
                                if (a1 != 4) = true then
                                  if (a1 != 5) = true then
                                    if ((y6.length : Int) == 0) = true then
                                      some (y7 == 31)
                                    else
                                      some false
                                  else
                                    if (decide (a2 < 0)) = false then
                                      if (decide (a2 > 65536)) = true then
                                        if ((y6.length : Int) == 0) = true then
                                          some (y7 == 1)
                                        else
                                          some false
                                      else
                                        if (y7 == 0) = true then
                                          (Fk20 (a1, a0, a2)).bind fun y13 =>
                                            (Fk15 (y6, y13)).bind fun y14 =>
                                              some y14
                                        else
                                          some false
                                    else
                                      if ((y6.length : Int) == 0) = true then
                                        some (y7 == 1)
                                      else
                                        some false
                                else
                                  if (decide (a2 < 0)) = false then
                                    if (decide (a2 > 65536)) = true then
                                      if ((y6.length : Int) == 0) = true then
                                        some (y7 == 1)
                                      else
                                        some false
                                    else
                                      if (y7 == 0) = true then
                                        (Fk20 (a1, a0, a2)).bind fun y15 =>
                                          (Fk15 (y6, y15)).bind fun y16 =>
                                            some y16
                                      else
                                        some false
                                  else
                                    if ((y6.length : Int) == 0) = true then
                                      some (y7 == 1)
                                    else
                                      some false
                            else
                              some false
                          else
                            some false
                        else
                          some false

noncomputable def annk5 : Ann := .none
theorem eqk5 : ∀ x : Sk5.inT, exec ktab (ofL Ek20) 91 bodyk5 annk5 (finL ktab Sk5) (Sk5.inp.enc x) = Fk5 x := by
  rintro ⟨a0, a1, a2⟩
  kernel_rfl
theorem callsk5 : CallsL Go.Proofs.Try.prog 5 Sk5 Fk5 := by
  refine fun_callsL (fn := Go.Proofs.Try.f5) (c := bodyk5) (ann := annk5) ck5 (by kernel_rfl) (by kernel_rfl) (by kernel_rfl) (by kernel_rfl) (by kernel_rfl) (annOk_of_cuts ?_) eqk5
  intro x hx
  exact absurd hx (by show x ∉ ([] : List (List Nat × LEnt)); simp)

theorem entk5 : EntOk Go.Proofs.Try.prog 5 (funEntL Sk5 true Fk5) := fun_okL (fn := Go.Proofs.Try.f5) (c := bodyk5) (by kernel_rfl) (by kernel_rfl) (by kernel_rfl) (by kernel_rfl) callsk5
noncomputable def Ek5 : List (Nat × Ent) := (5, funEntL Sk5 true Fk5) :: Ek20
theorem Ek5_ok : EntsOk Go.Proofs.Try.prog (ofL Ek5) := .cons entk5 Ek20_ok

/-! ### (*barbican/barbicanref03.Sponge).begin -/
noncomputable def bodyk35p : Code := (Go.Proofs.Try.f35.body).getD .skip
abbrev Sk35p : FL := ⟨⟨[(0, .ptr 1000000 0 30)], [.reg 1000000 (.cells [.int .i64, .full 1000001, .bool, .int .i64, .ints .u64 25, .int .i64]), .reg 1000001 (.row 5 .u8)], [(1000000, .env 0 0), (1000001, .reg 1000000 1)]⟩, 1, [(.ret, ⟨[], [.reg 1000000 (.cells [.int .i64, .full 1, .bool, .int .i64, .ints .u64 25, .int .i64]), .reg 1 (.row 5 .u8)], [(1, .reg 1000000 1)]⟩)], [], false⟩
noncomputable def ck35p : Ctx Go.Proofs.Try.prog := ⟨ktab, ofL Ek5, ktabOk, Ek5_ok, kdep, kord⟩
abbrev lk35p_0 : Lay := ⟨[(0, .ptr 1000000 0 30), (6, .full 28)], [.env 2 (.c (.int .i64)), .reg 1000000 (.cells [.int .i64, .full 1000001, .bool, .int .i64, .ints .u64 25, .int .i64]), .reg 28 (.row 5 .u8), .reg 1000001 (.row 5 .u8)], [(28, .env 6 0)]⟩
abbrev ok35p_0 : List (AExit × Lay) := [(.exit 0, ⟨[(0, .ptr 1000000 0 30), (6, .full 28)], [.env 2 (.c (.int .i64)), .reg 1000000 (.cells [.int .i64, .full 1000001, .bool, .int .i64, .ints .u64 25, .int .i64]), .reg 28 (.row 5 .u8), .reg 1000001 (.row 5 .u8)], [(28, .env 6 0)]⟩)]
noncomputable def stepk35p_0 : Int × (Int × Unit × Bool × Int × (Nat → Int) × Int) × List Int × List Int → Option ((Int × (Int × Unit × Bool × Int × (Nat → Int) × Int) × List Int × List Int) ⊕ ((Int × (Int × Unit × Bool × Int × (Nat → Int) × Int) × List Int × List Int)))
  | (t2, r1000000, r28, r1000001) =>
    if t2 ≠ 0 then
      if (((r28.length : Int).tmod t2) != 0) = true then
        if okBytes (r28.length + ((List.replicate 1 (0 : Int)).set 0 0).length) 1 then
          some (.inl (t2, (r1000000.1, (), r1000000.2.2.1, r1000000.2.2.2.1, r1000000.2.2.2.2.1, r1000000.2.2.2.2.2), (r28 ++ ((List.replicate 1 (0 : Int)).set 0 0)), r1000001))
        else none
      else
        some (.inr (t2, (r1000000.1, (), r1000000.2.2.1, r1000000.2.2.2.1, r1000000.2.2.2.2.1, r1000000.2.2.2.2.2), r28, r1000001))
    else none

noncomputable def annk35p_0 : Ann := .none
abbrev lk35p_2 : Lay := ⟨[(0, .ptr 1000000 0 30), (6, .full 28)], [.env 2 (.c (.int .i64)), .env 7 (.c (.int .i64)), .env 8 (.c (.int .i64)), .reg 1000000 (.cells [.int .i64, .full 1000001, .bool, .int .i64, .ints .u64 25, .int .i64]), .reg 28 (.row 5 .u8), .reg 1000001 (.row 5 .u8)], [(28, .env 6 0)]⟩
abbrev ok35p_2 : List (AExit × Lay) := [(.exit 4, ⟨[(0, .ptr 1000000 0 30), (6, .full 28)], [.env 2 (.c (.int .i64)), .env 7 (.c (.int .i64)), .reg 1000000 (.cells [.int .i64, .full 1000001, .bool, .int .i64, .ints .u64 25, .int .i64]), .reg 28 (.row 5 .u8), .reg 1000001 (.row 5 .u8)], [(28, .env 6 0)]⟩)]
noncomputable def stepk35p_2 : Int × Int × Int × (Int × Unit × Bool × Int × (Nat → Int) × Int) × List Int × List Int → Option ((Int × Int × Int × (Int × Unit × Bool × Int × (Nat → Int) × Int) × List Int × List Int) ⊕ ((Int × Int × (Int × Unit × Bool × Int × (Nat → Int) × Int) × List Int × List Int)))
  | (t2, t7, t8, r1000000, r28, r1000001) =>
    if (decide (t8 < t2)) = true then
      if (0 : Int) ≤ (IntKind.i64.wrap (t8.tdiv 8)) ∧ (IntKind.i64.wrap (t8.tdiv 8)) < ((25 : Int) : Int) then
        if (0 : Int) ≤ (IntKind.i64.wrap (t7 + t8)) ∧ (IntKind.i64.wrap (t7 + t8)) < (r28.length : Int) then
          let x12 : Int := (IntKind.u64.wrap (r28.getD (IntKind.i64.wrap (t7 + t8)).toNat 0))
          if 0 ≤ (IntKind.u64.wrap (IntKind.i64.wrap ((t8.tmod 8) * 8))) then
            let x13 : Int := (shlI .u64 x12 (IntKind.u64.wrap (IntKind.i64.wrap ((t8.tmod 8) * 8))))
            let x14 : Int := (bitsXor .u64 (r1000000.2.2.2.2.1 (IntKind.i64.wrap (t8.tdiv 8)).toNat) x13)
            if (0 : Int) ≤ (IntKind.i64.wrap (t8.tdiv 8)) ∧ (IntKind.i64.wrap (t8.tdiv 8)) < ((25 : Int) : Int) then
              let f15 : Nat → Int := (upd r1000000.2.2.2.2.1 (IntKind.i64.wrap (t8.tdiv 8)).toNat x14)
              some (.inl (t2, t7, (IntKind.i64.wrap (t8 + 1)), (r1000000.1, (), r1000000.2.2.1, r1000000.2.2.2.1, f15, r1000000.2.2.2.2.2), r28, r1000001))
            else none
          else none
        else none
      else none
    else
      some (.inr (t2, t7, (r1000000.1, (), r1000000.2.2.1, r1000000.2.2.2.1, r1000000.2.2.2.2.1, r1000000.2.2.2.2.2), r28, r1000001))

noncomputable def annk35p_2 : Ann := .none
abbrev lk35p_1 : Lay := ⟨[(0, .ptr 1000000 0 30), (6, .full 28)], [.env 2 (.c (.int .i64)), .env 7 (.c (.int .i64)), .reg 1000000 (.cells [.int .i64, .full 1000001, .bool, .int .i64, .ints .u64 25, .int .i64]), .reg 28 (.row 5 .u8), .reg 1000001 (.row 5 .u8)], [(28, .env 6 0)]⟩
abbrev ok35p_1 : List (AExit × Lay) := [(.exit 2, ⟨[(0, .ptr 1000000 0 30)], [.reg 1000000 (.cells [.int .i64, .full 1000001, .bool, .int .i64, .ints .u64 25, .int .i64]), .reg 1000001 (.row 5 .u8)], []⟩)]
noncomputable def stepk35p_1 : Int × Int × (Int × Unit × Bool × Int × (Nat → Int) × Int) × List Int × List Int → Option ((Int × Int × (Int × Unit × Bool × Int × (Nat → Int) × Int) × List Int × List Int) ⊕ (((Int × Unit × Bool × Int × (Nat → Int) × Int) × List Int)))
  | (t2, t7, r1000000, r28, r1000001) =>
    if (decide (t7 < (r28.length : Int))) = true then
      (loopO stepk35p_2 (t2, t7, 0, (r1000000.1, (), r1000000.2.2.1, r1000000.2.2.2.1, r1000000.2.2.2.2.1, r1000000.2.2.2.2.2), r28, r1000001)).bind fun (z16, z17, z18, z19, z20) =>
        (Fk10 z18.2.2.2.2.1).bind fun y21 =>
          some (.inl (z16, (IntKind.i64.wrap (z17 + z16)), (z18.1, (), z18.2.2.1, z18.2.2.2.1, y21, z18.2.2.2.2.2), z19, z20))
    else
      some (.inr ((r1000000.1, (), r1000000.2.2.1, r1000000.2.2.2.1, r1000000.2.2.2.2.1, r1000000.2.2.2.2.2), r1000001))

noncomputable def annk35p_1 : Ann := (.seq .none (.seq (.seq (.seq (.seq .none (.seq (.cut (cutEnt lk35p_2 ok35p_2 (loopO (stepk35p_2)))) .none)) .none) .none) .none))
noncomputable def Fk35p : (Int × Unit × Bool × Int × (Nat → Int) × Int) × List Int → Option (((Int × Unit × Bool × Int × (Nat → Int) × Int) × List Int))
  | (io, io1) =>
    (Fk33 io.1).bind fun (y1, y2, y3, y4) =>
      if okBytes (([] : List Int).length + io1.length) 1 then
        if okBytes ((([] : List Int) ++ io1).length + ((List.replicate 1 (0 : Int)).set 0 y2).length) 1 then
          let f5 : List Int := ((([] : List Int) ++ io1) ++ ((List.replicate 1 (0 : Int)).set 0 y2))
          (loopO stepk35p_0 (y1, (io.1, (), io.2.2.1, io.2.2.2.1, io.2.2.2.2.1, io.2.2.2.2.2), f5, io1)).bind fun (z6, z7, z8, z9) =>
            if (0 : Int) ≤ (IntKind.i64.wrap ((z8.length : Int) - 1)) ∧ (IntKind.i64.wrap ((z8.length : Int) - 1)) < (z8.length : Int) then
              let x10 : Int := (bitsXor .u8 (z8.getD (IntKind.i64.wrap ((z8.length : Int) - 1)).toNat 0) 128)
              if (0 : Int) ≤ (IntKind.i64.wrap ((z8.length : Int) - 1)) ∧ (IntKind.i64.wrap ((z8.length : Int) - 1)) < (z8.length : Int) then
                let f11 : List Int := (z8.set (IntKind.i64.wrap ((z8.length : Int) - 1)).toNat x10)
                (loopO stepk35p_1 (z6, 0, (z7.1, (), z7.2.2.1, z7.2.2.2.1, (fun _ => 0), z7.2.2.2.2.2), f11, z9)).bind fun (z22, z23) =>
                  some ((z22.1, (), z22.2.2.1, z22.2.2.2.1, z22.2.2.2.2.1, 0), z23)
              else none
            else none
        else none
      else none

noncomputable def annk35p : Ann := (.seq .none (.seq .none (.seq .none (.seq .none (.seq (.seq (.cut (cutEnt lk35p_0 ok35p_0 (loopO (stepk35p_0)))) .none) (.seq .none (.seq .none (.seq (.seq .none (.seq (.cut (cutEnt lk35p_1 ok35p_1 (loopO (stepk35p_1)))) .none)) .none))))))))
theorem eqk35p_0 : ∀ s : lk35p_0.T, exec ktab (ofL Ek5) 102 (Code.at' [1, 1, 1, 1, 0, 0, 0] bodyk35p) annk35p_0 (fun e st => loopEnd (l := lk35p_0) (outs := ok35p_0) e st) (lk35p_0.enc s) = stepk35p_0 s := by
  rintro ⟨t2, r1000000, r28, r1000001⟩
  kernel_rfl
theorem okk35p_0 : LOk Go.Proofs.Try.prog 102 (cutEnt lk35p_0 ok35p_0 (loopO stepk35p_0)) (Code.at' [1, 1, 1, 1, 0, 0] bodyk35p) := by
  have e : Code.at' [1, 1, 1, 1, 0, 0] bodyk35p = .loop (Code.at' [1, 1, 1, 1, 0, 0, 0] bodyk35p) := by kernel_rfl
  rw [e]
  refine loop_ok ck35p 102 rfl rfl (annOk_of_cuts ?_) eqk35p_0
  intro x hx
  exact absurd hx (by show x ∉ ([] : List (List Nat × LEnt)); simp)

theorem eqk35p_2 : ∀ s : lk35p_2.T, exec ktab (ofL Ek5) 102 (Code.at' [1, 1, 1, 1, 1, 1, 1, 0, 1, 0, 0, 1, 0, 0, 0, 1, 0, 0] bodyk35p) annk35p_2 (fun e st => loopEnd (l := lk35p_2) (outs := ok35p_2) e st) (lk35p_2.enc s) = stepk35p_2 s := by
  rintro ⟨t2, t7, t8, r1000000, r28, r1000001⟩
  kernel_rfl
theorem okk35p_2 : LOk Go.Proofs.Try.prog 102 (cutEnt lk35p_2 ok35p_2 (loopO stepk35p_2)) (Code.at' [1, 1, 1, 1, 1, 1, 1, 0, 1, 0, 0, 1, 0, 0, 0, 1, 0] bodyk35p) := by
  have e : Code.at' [1, 1, 1, 1, 1, 1, 1, 0, 1, 0, 0, 1, 0, 0, 0, 1, 0] bodyk35p = .loop (Code.at' [1, 1, 1, 1, 1, 1, 1, 0, 1, 0, 0, 1, 0, 0, 0, 1, 0, 0] bodyk35p) := by kernel_rfl
  rw [e]
  refine loop_ok ck35p 102 rfl rfl (annOk_of_cuts ?_) eqk35p_2
  intro x hx
  exact absurd hx (by show x ∉ ([] : List (List Nat × LEnt)); simp)

theorem eqk35p_1 : ∀ s : lk35p_1.T, exec ktab (ofL Ek5) 102 (Code.at' [1, 1, 1, 1, 1, 1, 1, 0, 1, 0, 0] bodyk35p) annk35p_1 (fun e st => loopEnd (l := lk35p_1) (outs := ok35p_1) e st) (lk35p_1.enc s) = stepk35p_1 s := by
  rintro ⟨t2, t7, r1000000, r28, r1000001⟩
  kernel_rfl
theorem okk35p_1 : LOk Go.Proofs.Try.prog 102 (cutEnt lk35p_1 ok35p_1 (loopO stepk35p_1)) (Code.at' [1, 1, 1, 1, 1, 1, 1, 0, 1, 0] bodyk35p) := by
  have e : Code.at' [1, 1, 1, 1, 1, 1, 1, 0, 1, 0] bodyk35p = .loop (Code.at' [1, 1, 1, 1, 1, 1, 1, 0, 1, 0, 0] bodyk35p) := by kernel_rfl
  rw [e]
  refine loop_ok ck35p 102 rfl rfl (annOk_of_cuts ?_) eqk35p_1
  have hc : Ann.cuts annk35p_1 = [([1, 0, 0, 0, 1, 0], (cutEnt lk35p_2 ok35p_2 (loopO (stepk35p_2))))] := by kernel_rfl
  rw [hc]
  intro x hx
  simp only [List.mem_cons, List.not_mem_nil, or_false] at hx
  rcases hx with rfl
  · have e : Code.at' [1, 0, 0, 0, 1, 0] (Code.at' [1, 1, 1, 1, 1, 1, 1, 0, 1, 0, 0] bodyk35p) = Code.at' [1, 1, 1, 1, 1, 1, 1, 0, 1, 0, 0, 1, 0, 0, 0, 1, 0] bodyk35p := by kernel_rfl
    rw [e]; exact okk35p_2

theorem eqk35p : ∀ x : Sk35p.inT, exec ktab (ofL Ek5) 102 bodyk35p annk35p (finL ktab Sk35p) (Sk35p.inp.enc x) = Fk35p x := by
  rintro ⟨io, io1⟩
  kernel_rfl
theorem callsk35p : CallsL Go.Proofs.Try.prog 35 Sk35p Fk35p := by
  refine fun_callsL (fn := Go.Proofs.Try.f35) (c := bodyk35p) (ann := annk35p) ck35p (by kernel_rfl) (by kernel_rfl) (by kernel_rfl) (by kernel_rfl) (by kernel_rfl) (annOk_of_cuts ?_) eqk35p
  have hc : Ann.cuts annk35p = [([1, 1, 1, 1, 0, 0], (cutEnt lk35p_0 ok35p_0 (loopO (stepk35p_0)))), ([1, 1, 1, 1, 1, 1, 1, 0, 1, 0], (cutEnt lk35p_1 ok35p_1 (loopO (stepk35p_1))))] := by kernel_rfl
  rw [hc]
  intro x hx
  simp only [List.mem_cons, List.not_mem_nil, or_false] at hx
  rcases hx with rfl | rfl
  · have e : Code.at' [1, 1, 1, 1, 0, 0] bodyk35p = Code.at' [1, 1, 1, 1, 0, 0] bodyk35p := by kernel_rfl
    rw [e]; exact okk35p_0
  · have e : Code.at' [1, 1, 1, 1, 1, 1, 1, 0, 1, 0] bodyk35p = Code.at' [1, 1, 1, 1, 1, 1, 1, 0, 1, 0] bodyk35p := by kernel_rfl
    rw [e]; exact okk35p_1

theorem entk35p : EntOk Go.Proofs.Try.prog 35 (funEntL Sk35p true Fk35p) := fun_okL (fn := Go.Proofs.Try.f35) (c := bodyk35p) (by kernel_rfl) (by kernel_rfl) (by kernel_rfl) (by kernel_rfl) callsk35p
noncomputable def Ek35p : List (Nat × Ent) := (35, funEntL Sk35p true Fk35p) :: Ek5
theorem Ek35p_ok : EntsOk Go.Proofs.Try.prog (ofL Ek35p) := .cons entk35p Ek5_ok

/-! ### (*barbican/barbicanref03.Sponge).Read -/
noncomputable def bodyk32p : Code := (Go.Proofs.Try.f32.body).getD .skip
abbrev Sk32p : FL := ⟨⟨[(0, .ptr 1000000 0 30)], [.reg 1000000 (.cells [.int .i64, .full 1000001, .bool, .int .i64, .ints .u64 25, .int .i64]), .reg 1000001 (.row 5 .u8), .env 1 (.c (.int .i64))], [(1000000, .env 0 0), (1000001, .reg 1000000 1)]⟩, 2, [(.ret, ⟨[(0, .full 1)], [.reg 1 (.row 5 .u8), .reg 1000000 (.cells [.int .i64, .full 2, .bool, .int .i64, .ints .u64 25, .int .i64]), .reg 2 (.row 5 .u8)], [(1, .env 0 0), (2, .reg 1000000 1)]⟩)], [.tmp 4], false⟩
noncomputable def ck32p : Ctx Go.Proofs.Try.prog := ⟨ktab, ofL Ek35p, ktabOk, Ek35p_ok, kdep, kord⟩
abbrev lk32p_1 : Lay := ⟨[(0, .ptr 1000000 0 30), (9, .full 9)], [.env 1 (.c (.int .i64)), .env 5 (.c (.int .i64)), .env 10 (.c (.int .i64)), .reg 1000000 (.cells [.int .i64, .full 1027, .bool, .int .i64, .ints .u64 25, .int .i64]), .reg 9 (.row 5 .u8), .reg 1027 (.row 5 .u8)], [(9, .env 9 0), (1027, .reg 1000000 1)]⟩
abbrev ok32p_1 : List (AExit × Lay) := [(.exit 2, ⟨[(0, .ptr 1000000 0 30), (9, .full 9)], [.env 1 (.c (.int .i64)), .env 5 (.c (.int .i64)), .env 10 (.c (.int .i64)), .reg 1000000 (.cells [.int .i64, .full 1027, .bool, .int .i64, .ints .u64 25, .int .i64]), .reg 9 (.row 5 .u8), .reg 1027 (.row 5 .u8)], [(9, .env 9 0), (1027, .reg 1000000 1)]⟩)]
noncomputable def stepk32p_1 : Int × Int × Int × (Int × Unit × Bool × Int × (Nat → Int) × Int) × List Int × List Int → Option ((Int × Int × Int × (Int × Unit × Bool × Int × (Nat → Int) × Int) × List Int × List Int) ⊕ ((Int × Int × Int × (Int × Unit × Bool × Int × (Nat → Int) × Int) × List Int × List Int)))
  | (t1, t5, t10, r1000000, r9, r1027) =>
    if t5 ≠ 0 then
      let x7 : Bool := (decide (r1000000.2.2.2.2.2 < (IntKind.i64.wrap (r1000000.2.2.2.1.tdiv t5))))
      if x7 = true then
        (Fk10 r1000000.2.2.2.2.1).bind fun y8 =>
          some (.inl (t1, t5, t10, (r1000000.1, (), r1000000.2.2.1, r1000000.2.2.2.1, y8, (IntKind.i64.wrap (r1000000.2.2.2.2.2 + 1))), r9, r1027))
      else
        some (.inr (t1, t5, t10, (r1000000.1, (), r1000000.2.2.1, r1000000.2.2.2.1, r1000000.2.2.2.2.1, r1000000.2.2.2.2.2), r9, r1027))
    else none

noncomputable def annk32p_1 : Ann := .none
abbrev lk32p_0 : Lay := ⟨[(0, .ptr 1000000 0 30), (9, .full 9)], [.env 1 (.c (.int .i64)), .env 5 (.c (.int .i64)), .env 10 (.c (.int .i64)), .reg 1000000 (.cells [.int .i64, .full 1027, .bool, .int .i64, .ints .u64 25, .int .i64]), .reg 9 (.row 5 .u8), .reg 1027 (.row 5 .u8)], [(9, .env 9 0), (1027, .reg 1000000 1)]⟩
abbrev ok32p_0 : List (AExit × Lay) := [(.exit 0, ⟨[(9, .full 9)], [.reg 9 (.row 5 .u8), .reg 1000000 (.cells [.int .i64, .full 1027, .bool, .int .i64, .ints .u64 25, .int .i64]), .reg 1027 (.row 5 .u8)], [(9, .env 9 0), (1027, .reg 1000000 1)]⟩)]
noncomputable def stepk32p_0 : Int × Int × Int × (Int × Unit × Bool × Int × (Nat → Int) × Int) × List Int × List Int → Option ((Int × Int × Int × (Int × Unit × Bool × Int × (Nat → Int) × Int) × List Int × List Int) ⊕ ((List Int × (Int × Unit × Bool × Int × (Nat → Int) × Int) × List Int)))
  | (t1, t5, t10, r1000000, r9, r1027) =>
    if (decide (t10 < t1)) = true then
      (loopO stepk32p_1 (t1, t5, t10, (r1000000.1, (), r1000000.2.2.1, r1000000.2.2.2.1, r1000000.2.2.2.2.1, r1000000.2.2.2.2.2), r9, r1027)).bind fun (z9, z10, z11, z12, z13, z14) =>
        if z10 ≠ 0 then
          (Fk36 (z12.2.2.2.2.1, (z12.2.2.2.1.tmod z10))).bind fun y15 =>
            if okBytes (z13.length + ((List.replicate 1 (0 : Int)).set 0 y15).length) 1 then
              some (.inl (z9, z10, (IntKind.i64.wrap (z11 + 1)), (z12.1, (), z12.2.2.1, (IntKind.i64.wrap (z12.2.2.2.1 + 1)), z12.2.2.2.2.1, z12.2.2.2.2.2), (z13 ++ ((List.replicate 1 (0 : Int)).set 0 y15)), z14))
            else none
        else none
    else
      some (.inr (r9, (r1000000.1, (), r1000000.2.2.1, r1000000.2.2.2.1, r1000000.2.2.2.2.1, r1000000.2.2.2.2.2), r1027))

noncomputable def annk32p_0 : Ann := (.seq .none (.seq (.seq (.seq (.seq (.cut (cutEnt lk32p_1 ok32p_1 (loopO (stepk32p_1)))) .none) .none) .none) .none))
noncomputable def Fk32p : (Int × Unit × Bool × Int × (Nat → Int) × Int) × List Int × Int → Option ((List Int × (Int × Unit × Bool × Int × (Nat → Int) × Int) × List Int))
  | (io, io1, a1) =>
    (Fk33 io.1).bind fun (y1, y2, y3, y4) =>
      if (!io.2.2.1) = true then
        (Fk35p ((io.1, (), io.2.2.1, io.2.2.2.1, io.2.2.2.2.1, io.2.2.2.2.2), io1)).bind fun (y5, y6) =>
          (loopO stepk32p_0 (a1, y1, 0, (y5.1, (), true, y5.2.2.2.1, y5.2.2.2.2.1, y5.2.2.2.2.2), ([] : List Int), y6)).bind fun (z16, z17, z18) =>
            some (z16, (z17.1, (), z17.2.2.1, z17.2.2.2.1, z17.2.2.2.2.1, z17.2.2.2.2.2), z18)
      else
        (loopO stepk32p_0 (a1, y1, 0, (io.1, (), true, io.2.2.2.1, io.2.2.2.2.1, io.2.2.2.2.2), ([] : List Int), io1)).bind fun (z19, z20, z21) =>
          some (z19, (z20.1, (), z20.2.2.1, z20.2.2.2.1, z20.2.2.2.2.1, z20.2.2.2.2.2), z21)

noncomputable def annk32p : Ann := (.seq .none (.seq .none (.seq .none (.seq .none (.seq .none (.seq (.seq .none (.seq (.cut (cutEnt lk32p_0 ok32p_0 (loopO (stepk32p_0)))) .none)) .none))))))
theorem eqk32p_1 : ∀ s : lk32p_1.T, exec ktab (ofL Ek35p) 84 (Code.at' [1, 1, 1, 1, 1, 0, 1, 0, 0, 1, 0, 0, 0, 0, 0] bodyk32p) annk32p_1 (fun e st => loopEnd (l := lk32p_1) (outs := ok32p_1) e st) (lk32p_1.enc s) = stepk32p_1 s := by
  rintro ⟨t1, t5, t10, r1000000, r9, r1027⟩
  kernel_rfl
theorem okk32p_1 : LOk Go.Proofs.Try.prog 84 (cutEnt lk32p_1 ok32p_1 (loopO stepk32p_1)) (Code.at' [1, 1, 1, 1, 1, 0, 1, 0, 0, 1, 0, 0, 0, 0] bodyk32p) := by
  have e : Code.at' [1, 1, 1, 1, 1, 0, 1, 0, 0, 1, 0, 0, 0, 0] bodyk32p = .loop (Code.at' [1, 1, 1, 1, 1, 0, 1, 0, 0, 1, 0, 0, 0, 0, 0] bodyk32p) := by kernel_rfl
  rw [e]
  refine loop_ok ck32p 84 rfl rfl (annOk_of_cuts ?_) eqk32p_1
  intro x hx
  exact absurd hx (by show x ∉ ([] : List (List Nat × LEnt)); simp)

theorem eqk32p_0 : ∀ s : lk32p_0.T, exec ktab (ofL Ek35p) 84 (Code.at' [1, 1, 1, 1, 1, 0, 1, 0, 0] bodyk32p) annk32p_0 (fun e st => loopEnd (l := lk32p_0) (outs := ok32p_0) e st) (lk32p_0.enc s) = stepk32p_0 s := by
  rintro ⟨t1, t5, t10, r1000000, r9, r1027⟩
  kernel_rfl
theorem okk32p_0 : LOk Go.Proofs.Try.prog 84 (cutEnt lk32p_0 ok32p_0 (loopO stepk32p_0)) (Code.at' [1, 1, 1, 1, 1, 0, 1, 0] bodyk32p) := by
  have e : Code.at' [1, 1, 1, 1, 1, 0, 1, 0] bodyk32p = .loop (Code.at' [1, 1, 1, 1, 1, 0, 1, 0, 0] bodyk32p) := by kernel_rfl
  rw [e]
  refine loop_ok ck32p 84 rfl rfl (annOk_of_cuts ?_) eqk32p_0
  have hc : Ann.cuts annk32p_0 = [([1, 0, 0, 0, 0], (cutEnt lk32p_1 ok32p_1 (loopO (stepk32p_1))))] := by kernel_rfl
  rw [hc]
  intro x hx
  simp only [List.mem_cons, List.not_mem_nil, or_false] at hx
  rcases hx with rfl
  · have e : Code.at' [1, 0, 0, 0, 0] (Code.at' [1, 1, 1, 1, 1, 0, 1, 0, 0] bodyk32p) = Code.at' [1, 1, 1, 1, 1, 0, 1, 0, 0, 1, 0, 0, 0, 0] bodyk32p := by kernel_rfl
    rw [e]; exact okk32p_1

theorem eqk32p : ∀ x : Sk32p.inT, exec ktab (ofL Ek35p) 84 bodyk32p annk32p (finL ktab Sk32p) (Sk32p.inp.enc x) = Fk32p x := by
  rintro ⟨io, io1, a1⟩
  kernel_rfl
theorem callsk32p : CallsL Go.Proofs.Try.prog 32 Sk32p Fk32p := by
  refine fun_callsL (fn := Go.Proofs.Try.f32) (c := bodyk32p) (ann := annk32p) ck32p (by kernel_rfl) (by kernel_rfl) (by kernel_rfl) (by kernel_rfl) (by kernel_rfl) (annOk_of_cuts ?_) eqk32p
  have hc : Ann.cuts annk32p = [([1, 1, 1, 1, 1, 0, 1, 0], (cutEnt lk32p_0 ok32p_0 (loopO (stepk32p_0))))] := by kernel_rfl
  rw [hc]
  intro x hx
  simp only [List.mem_cons, List.not_mem_nil, or_false] at hx
  rcases hx with rfl
  · have e : Code.at' [1, 1, 1, 1, 1, 0, 1, 0] bodyk32p = Code.at' [1, 1, 1, 1, 1, 0, 1, 0] bodyk32p := by kernel_rfl
    rw [e]; exact okk32p_0

theorem entk32p : EntOk Go.Proofs.Try.prog 32 (funEntL Sk32p true Fk32p) := fun_okL (fn := Go.Proofs.Try.f32) (c := bodyk32p) (by kernel_rfl) (by kernel_rfl) (by kernel_rfl) (by kernel_rfl) callsk32p
noncomputable def Ek32p : List (Nat × Ent) := (32, funEntL Sk32p true Fk32p) :: Ek35p
theorem Ek32p_ok : EntsOk Go.Proofs.Try.prog (ofL Ek32p) := .cons entk32p Ek35p_ok

/-! ### (*barbican/barbicanref03.Sponge).Left -/
noncomputable def bodyk24p : Code := (Go.Proofs.Try.f24.body).getD .skip
abbrev Sk24p : FL := ⟨⟨[(0, .ptr 1000000 0 30)], [.reg 1000000 (.cells [.int .i64, .full 1000001, .bool, .int .i64, .ints .u64 25, .int .i64]), .reg 1000001 (.row 5 .u8)], [(1000000, .env 0 0), (1000001, .reg 1000000 1)]⟩, 1, [(.ret, ⟨[], [.env 0 (.c (.int .i64)), .reg 1000000 (.cells [.int .i64, .full 1, .bool, .int .i64, .ints .u64 25, .int .i64]), .reg 1 (.row 5 .u8)], [(1, .reg 1000000 1)]⟩)], [.tmp 2], false⟩
noncomputable def ck24p : Ctx Go.Proofs.Try.prog := ⟨ktab, ofL Ek32p, ktabOk, Ek32p_ok, kdep, kord⟩
noncomputable def Fk24p : (Int × Unit × Bool × Int × (Nat → Int) × Int) × List Int → Option ((Int × (Int × Unit × Bool × Int × (Nat → Int) × Int) × List Int))
  | (io, io1) =>
    (Fk33 io.1).bind fun (y1, y2, y3, y4) =>
      if (decide (y3 < 0)) = true then
        some ((-1), (io.1, (), io.2.2.1, io.2.2.2.1, io.2.2.2.2.1, io.2.2.2.2.2), io1)
      else
        some ((IntKind.i64.wrap (y3 - io.2.2.2.1)), (io.1, (), io.2.2.1, io.2.2.2.1, io.2.2.2.2.1, io.2.2.2.2.2), io1)

noncomputable def annk24p : Ann := .none
theorem eqk24p : ∀ x : Sk24p.inT, exec ktab (ofL Ek32p) 25 bodyk24p annk24p (finL ktab Sk24p) (Sk24p.inp.enc x) = Fk24p x := by
  rintro ⟨io, io1⟩
  kernel_rfl
theorem callsk24p : CallsL Go.Proofs.Try.prog 24 Sk24p Fk24p := by
  refine fun_callsL (fn := Go.Proofs.Try.f24) (c := bodyk24p) (ann := annk24p) ck24p (by kernel_rfl) (by kernel_rfl) (by kernel_rfl) (by kernel_rfl) (by kernel_rfl) (annOk_of_cuts ?_) eqk24p
  intro x hx
  exact absurd hx (by show x ∉ ([] : List (List Nat × LEnt)); simp)

theorem entk24p : EntOk Go.Proofs.Try.prog 24 (funEntL Sk24p true Fk24p) := fun_okL (fn := Go.Proofs.Try.f24) (c := bodyk24p) (by kernel_rfl) (by kernel_rfl) (by kernel_rfl) (by kernel_rfl) callsk24p
noncomputable def Ek24p : List (Nat × Ent) := (24, funEntL Sk24p true Fk24p) :: Ek32p
theorem Ek24p_ok : EntsOk Go.Proofs.Try.prog (ofL Ek24p) := .cons entk24p Ek32p_ok

/-! ### (*barbican/keccak.Sponge).Left -/
noncomputable def bodyk23 : Code := (Go.Proofs.Try.f23.body).getD .skip
abbrev Sk23 : FL := ⟨⟨[(0, .ptr 1000000 0 29)], [.reg 1000000 (.cells [.int .i64, .ints .u64 25, .int .i64, .bool, .int .i64])], [(1000000, .env 0 0)]⟩, 1, [(.ret, ⟨[], [.env 0 (.c (.int .i64)), .reg 1000000 (.cells [.int .i64, .ints .u64 25, .int .i64, .bool, .int .i64])], []⟩)], [.tmp 2], false⟩
noncomputable def ck23 : Ctx Go.Proofs.Try.prog := ⟨ktab, ofL Ek24p, ktabOk, Ek24p_ok, kdep, kord⟩
noncomputable def Fk23 : Int × (Nat → Int) × Int × Bool × Int → Option ((Int × (Int × (Nat → Int) × Int × Bool × Int)))
  | io =>
    some (io.2.2.2.2, (io.1, io.2.1, io.2.2.1, io.2.2.2.1, io.2.2.2.2))

noncomputable def annk23 : Ann := .none
theorem eqk23 : ∀ x : Sk23.inT, exec ktab (ofL Ek24p) 9 bodyk23 annk23 (finL ktab Sk23) (Sk23.inp.enc x) = Fk23 x := by
  intro x
  kernel_rfl
theorem callsk23 : CallsL Go.Proofs.Try.prog 23 Sk23 Fk23 := by
  refine fun_callsL (fn := Go.Proofs.Try.f23) (c := bodyk23) (ann := annk23) ck23 (by kernel_rfl) (by kernel_rfl) (by kernel_rfl) (by kernel_rfl) (by kernel_rfl) (annOk_of_cuts ?_) eqk23
  intro x hx
  exact absurd hx (by show x ∉ ([] : List (List Nat × LEnt)); simp)

theorem entk23 : EntOk Go.Proofs.Try.prog 23 (funEntL Sk23 true Fk23) := fun_okL (fn := Go.Proofs.Try.f23) (c := bodyk23) (by kernel_rfl) (by kernel_rfl) (by kernel_rfl) (by kernel_rfl) callsk23
noncomputable def Ek23 : List (Nat × Ent) := (23, funEntL Sk23 true Fk23) :: Ek24p
theorem Ek23_ok : EntsOk Go.Proofs.Try.prog (ofL Ek23) := .cons entk23 Ek24p_ok

/-! ### (*barbican/keccak.Sponge).Copy -/
noncomputable def bodyk25 : Code := (Go.Proofs.Try.f25.body).getD .skip
abbrev Sk25 : FL := ⟨⟨[(0, .ptr 1000000 0 29)], [.reg 1000000 (.cells [.int .i64, .ints .u64 25, .int .i64, .bool, .int .i64])], [(1000000, .env 0 0)]⟩, 1, [(.ret, ⟨[(0, .ptr 1 0 29)], [.reg 1 (.cells [.int .i64, .ints .u64 25, .int .i64, .bool, .int .i64]), .reg 1000000 (.cells [.int .i64, .ints .u64 25, .int .i64, .bool, .int .i64])], [(1, .env 0 0)]⟩)], [.tmp 2], false⟩
noncomputable def ck25 : Ctx Go.Proofs.Try.prog := ⟨ktab, ofL Ek23, ktabOk, Ek23_ok, kdep, kord⟩
noncomputable def Fk25 : Int × (Nat → Int) × Int × Bool × Int → Option (((Int × (Nat → Int) × Int × Bool × Int) × (Int × (Nat → Int) × Int × Bool × Int)))
  | io =>
    some ((io.1, io.2.1, io.2.2.1, io.2.2.2.1, io.2.2.2.2), (io.1, io.2.1, io.2.2.1, io.2.2.2.1, io.2.2.2.2))

noncomputable def annk25 : Ann := .none
theorem eqk25 : ∀ x : Sk25.inT, exec ktab (ofL Ek23) 9 bodyk25 annk25 (finL ktab Sk25) (Sk25.inp.enc x) = Fk25 x := by
  intro x
  kernel_rfl
theorem callsk25 : CallsL Go.Proofs.Try.prog 25 Sk25 Fk25 := by
  refine fun_callsL (fn := Go.Proofs.Try.f25) (c := bodyk25) (ann := annk25) ck25 (by kernel_rfl) (by kernel_rfl) (by kernel_rfl) (by kernel_rfl) (by kernel_rfl) (annOk_of_cuts ?_) eqk25
  intro x hx
  exact absurd hx (by show x ∉ ([] : List (List Nat × LEnt)); simp)

theorem entk25 : EntOk Go.Proofs.Try.prog 25 (funEntL Sk25 true Fk25) := fun_okL (fn := Go.Proofs.Try.f25) (c := bodyk25) (by kernel_rfl) (by kernel_rfl) (by kernel_rfl) (by kernel_rfl) callsk25
noncomputable def Ek25 : List (Nat × Ent) := (25, funEntL Sk25 true Fk25) :: Ek23
theorem Ek25_ok : EntsOk Go.Proofs.Try.prog (ofL Ek25) := .cons entk25 Ek23_ok

/-! ### (*barbican/barbicanlaw03.twin).begun -/
noncomputable def bodyk21v : Code := (Go.Proofs.Try.f21.body).getD .skip
abbrev Sk21v : FL := ⟨⟨[(0, .ptr 1000000 0 2)], [.reg 1000000 (.cells [.ptr 1000010 0 29, .ptr 1000011 0 30]), .reg 1000010 (.cells [.int .i64, .ints .u64 25, .int .i64, .bool, .int .i64]), .reg 1000011 (.cells [.int .i64, .full 1000012, .bool, .int .i64, .ints .u64 25, .int .i64]), .reg 1000012 (.row 5 .u8), .env 1 (.c (.int .i64))], [(1000000, .env 0 0), (1000010, .reg 1000000 0), (1000011, .reg 1000000 1), (1000012, .reg 1000011 1)]⟩, 2, [(.ret, ⟨[], [.env 0 (.c (.bool)), .env 1 (.c (.bool)), .reg 1000000 (.cells [.ptr 1 0 29, .ptr 2 0 30]), .reg 1 (.cells [.int .i64, .ints .u64 25, .int .i64, .bool, .int .i64]), .reg 2 (.cells [.int .i64, .full 3, .bool, .int .i64, .ints .u64 25, .int .i64]), .reg 3 (.row 5 .u8)], [(1, .reg 1000000 0), (2, .reg 1000000 1), (3, .reg 2 1)]⟩), (.ret, ⟨[], [.env 0 (.c (.bool)), .env 1 (.c (.bool)), .reg 1000000 (.cells [.nilp, .ptr 1 0 30]), .reg 1 (.cells [.int .i64, .nils, .bool, .int .i64, .ints .u64 25, .int .i64])], [(1, .reg 1000000 1)]⟩)], [.tmp 4, .tmp 5], false⟩
noncomputable def ck21v : Ctx Go.Proofs.Try.prog := ⟨ktab, ofL Ek25, ktabOk, Ek25_ok, kdep, kord⟩
noncomputable def Fk21v : (Unit × Unit) × (Int × (Nat → Int) × Int × Bool × Int) × (Int × Unit × Bool × Int × (Nat → Int) × Int) × List Int × Int → Option ((Bool × Bool × (Unit × Unit) × (Int × (Nat → Int) × Int × Bool × Int) × (Int × Unit × Bool × Int × (Nat → Int) × Int) × List Int) ⊕ (Bool × Bool × (Unit × Unit) × (Int × Unit × Bool × Int × (Nat → Int) × Int)))
  | (io, io10, io11, io12, a1) =>
    (Fk11 a1).bind fun
      | (.inl (y1, y2)) =>
        (Fk33 a1).bind fun (y3, y4, y5, y6) =>
          if (!(y6 == (y2 == 0))) = false then
            if (!(y6 == true)) = false then
              if (!y6) = true then
                if (y2 != 31) = true then
                  some (.inl (false, false, ((), ()), (io10.1, io10.2.1, io10.2.2.1, io10.2.2.2.1, io10.2.2.2.2), (io11.1, (), io11.2.2.1, io11.2.2.2.1, io11.2.2.2.2.1, io11.2.2.2.2.2), io12))
                else
                  if y6 = true then
                    some (.inl (true, y6, ((), ()), (y1.1, y1.2.1, y1.2.2.1, y1.2.2.2.1, y1.2.2.2.2), (a1, (), false, 0, (fun _ => 0), 0), ([] : List Int)))
                  else
                    some (.inl (true, y6, ((), ()), (io10.1, io10.2.1, io10.2.2.1, io10.2.2.2.1, io10.2.2.2.2), (io11.1, (), io11.2.2.1, io11.2.2.2.1, io11.2.2.2.2.1, io11.2.2.2.2.2), io12))
              else
                if y6 = true then
                  some (.inl (true, y6, ((), ()), (y1.1, y1.2.1, y1.2.2.1, y1.2.2.2.1, y1.2.2.2.2), (a1, (), false, 0, (fun _ => 0), 0), ([] : List Int)))
                else
                  some (.inl (true, y6, ((), ()), (io10.1, io10.2.1, io10.2.2.1, io10.2.2.2.1, io10.2.2.2.2), (io11.1, (), io11.2.2.1, io11.2.2.2.1, io11.2.2.2.2.1, io11.2.2.2.2.2), io12))
            else
              some (.inl (false, false, ((), ()), (io10.1, io10.2.1, io10.2.2.1, io10.2.2.2.1, io10.2.2.2.2), (io11.1, (), io11.2.2.1, io11.2.2.2.1, io11.2.2.2.2.1, io11.2.2.2.2.2), io12))
          else
            some (.inl (false, false, ((), ()), (io10.1, io10.2.1, io10.2.2.1, io10.2.2.2.1, io10.2.2.2.2), (io11.1, (), io11.2.2.1, io11.2.2.2.1, io11.2.2.2.2.1, io11.2.2.2.2.2), io12))
      | (.inr y7) =>
        (Fk33 a1).bind fun (y8, y9, y10, y11) =>
          if (!(y11 == (y7 == 0))) = false then
            if (!(y11 == false)) = false then
              if (!y11) = true then
                if (y7 != 31) = true then
                  some (.inl (false, false, ((), ()), (io10.1, io10.2.1, io10.2.2.1, io10.2.2.2.1, io10.2.2.2.2), (io11.1, (), io11.2.2.1, io11.2.2.2.1, io11.2.2.2.2.1, io11.2.2.2.2.2), io12))
                else
                  if y11 = true then
                    some (.inr (true, y11, ((), ()), (a1, (), false, 0, (fun _ => 0), 0)))
                  else
                    some (.inl (true, y11, ((), ()), (io10.1, io10.2.1, io10.2.2.1, io10.2.2.2.1, io10.2.2.2.2), (io11.1, (), io11.2.2.1, io11.2.2.2.1, io11.2.2.2.2.1, io11.2.2.2.2.2), io12))
              else
                if y11 = true then
                  some (.inr (true, y11, ((), ()), (a1, (), false, 0, (fun _ => 0), 0)))
                else
                  some (.inl (true, y11, ((), ()), (io10.1, io10.2.1, io10.2.2.1, io10.2.2.2.1, io10.2.2.2.2), (io11.1, (), io11.2.2.1, io11.2.2.2.1, io11.2.2.2.2.1, io11.2.2.2.2.2), io12))
            else
              some (.inl (false, false, ((), ()), (io10.1, io10.2.1, io10.2.2.1, io10.2.2.2.1, io10.2.2.2.2), (io11.1, (), io11.2.2.1, io11.2.2.2.1, io11.2.2.2.2.1, io11.2.2.2.2.2), io12))
          else
            some (.inl (false, false, ((), ()), (io10.1, io10.2.1, io10.2.2.1, io10.2.2.2.1, io10.2.2.2.2), (io11.1, (), io11.2.2.1, io11.2.2.2.1, io11.2.2.2.2.1, io11.2.2.2.2.2), io12))

noncomputable def annk21v : Ann := .none
theorem eqk21v : ∀ x : Sk21v.inT, exec ktab (ofL Ek25) 54 bodyk21v annk21v (finL ktab Sk21v) (Sk21v.inp.enc x) = Fk21v x := by
  rintro ⟨io, io10, io11, io12, a1⟩
  kernel_rfl
theorem callsk21v : CallsL Go.Proofs.Try.prog 21 Sk21v Fk21v := by
  refine fun_callsL (fn := Go.Proofs.Try.f21) (c := bodyk21v) (ann := annk21v) ck21v (by kernel_rfl) (by kernel_rfl) (by kernel_rfl) (by kernel_rfl) (by kernel_rfl) (annOk_of_cuts ?_) eqk21v
  intro x hx
  exact absurd hx (by show x ∉ ([] : List (List Nat × LEnt)); simp)

theorem entk21v : EntOk Go.Proofs.Try.prog 21 (funEntL Sk21v true Fk21v) := fun_okL (fn := Go.Proofs.Try.f21) (c := bodyk21v) (by kernel_rfl) (by kernel_rfl) (by kernel_rfl) (by kernel_rfl) callsk21v
noncomputable def Ek21v : List (Nat × Ent) := (21, funEntL Sk21v true Fk21v) :: Ek25
theorem Ek21v_ok : EntsOk Go.Proofs.Try.prog (ofL Ek21v) := .cons entk21v Ek25_ok

/-! ### (*barbican/barbicanlaw03.twin).read -/
noncomputable def bodyk34 : Code := (Go.Proofs.Try.f34.body).getD .skip
abbrev Sk34 : FL := ⟨⟨[(0, .ptr 1000000 0 2)], [.reg 1000000 (.cells [.ptr 1000010 0 29, .ptr 1000011 0 30]), .reg 1000010 (.cells [.int .i64, .ints .u64 25, .int .i64, .bool, .int .i64]), .reg 1000011 (.cells [.int .i64, .full 1000012, .bool, .int .i64, .ints .u64 25, .int .i64]), .reg 1000012 (.row 5 .u8), .env 1 (.c (.int .i64))], [(1000000, .env 0 0), (1000010, .reg 1000000 0), (1000011, .reg 1000000 1), (1000012, .reg 1000011 1)]⟩, 2, [(.ret, ⟨[], [.env 0 (.c (.bool)), .reg 1000000 (.cells [.ptr 1 0 29, .ptr 2 0 30]), .reg 1 (.cells [.int .i64, .ints .u64 25, .int .i64, .bool, .int .i64]), .reg 2 (.cells [.int .i64, .full 3, .bool, .int .i64, .ints .u64 25, .int .i64]), .reg 3 (.row 5 .u8)], [(1, .reg 1000000 0), (2, .reg 1000000 1), (3, .reg 2 1)]⟩)], [.tmp 4], false⟩
noncomputable def ck34 : Ctx Go.Proofs.Try.prog := ⟨ktab, ofL Ek21v, ktabOk, Ek21v_ok, kdep, kord⟩
abbrev lk34_0 : Lay := ⟨[(5, .full 1016)], [.env 6 (.c (.int .i64)), .env 8 (.c (.bool)), .env 9 (.c (.int .i64)), .reg 1016 (.row 5 .u8), .reg 1000000 (.cells [.ptr 1000010 0 29, .ptr 1000011 0 30]), .reg 1000010 (.cells [.int .i64, .ints .u64 25, .int .i64, .bool, .int .i64]), .reg 1000011 (.cells [.int .i64, .full 2057, .bool, .int .i64, .ints .u64 25, .int .i64]), .reg 2057 (.row 5 .u8)], [(1016, .env 5 0), (2057, .reg 1000011 1)]⟩
abbrev ok34_0 : List (AExit × Lay) := [(.exit 0, ⟨[(5, .full 1016)], [.env 6 (.c (.int .i64)), .env 8 (.c (.bool)), .reg 1016 (.row 5 .u8), .reg 1000000 (.cells [.ptr 1000010 0 29, .ptr 1000011 0 30]), .reg 1000010 (.cells [.int .i64, .ints .u64 25, .int .i64, .bool, .int .i64]), .reg 1000011 (.cells [.int .i64, .full 2057, .bool, .int .i64, .ints .u64 25, .int .i64]), .reg 2057 (.row 5 .u8)], [(1016, .env 5 0), (2057, .reg 1000011 1)]⟩)]
noncomputable def stepk34_0 : Int × Bool × Int × List Int × (Unit × Unit) × (Int × (Nat → Int) × Int × Bool × Int) × (Int × Unit × Bool × Int × (Nat → Int) × Int) × List Int → Option ((Int × Bool × Int × List Int × (Unit × Unit) × (Int × (Nat → Int) × Int × Bool × Int) × (Int × Unit × Bool × Int × (Nat → Int) × Int) × List Int) ⊕ ((Int × Bool × List Int × (Unit × Unit) × (Int × (Nat → Int) × Int × Bool × Int) × (Int × Unit × Bool × Int × (Nat → Int) × Int) × List Int)))
  | (t6, t8, t9, r1016, r1000000, r1000010, r1000011, r2057) =>
    if (decide (t9 < (r1016.length : Int))) = true then
      if (0 : Int) ≤ t9 ∧ t9 < (r1016.length : Int) then
        some (.inl (t6, t8, (IntKind.i64.wrap (t9 + 1)), (r1016.set t9.toNat 55), ((), ()), (r1000010.1, r1000010.2.1, r1000010.2.2.1, r1000010.2.2.2.1, r1000010.2.2.2.2), (r1000011.1, (), r1000011.2.2.1, r1000011.2.2.2.1, r1000011.2.2.2.2.1, r1000011.2.2.2.2.2), r2057))
      else none
    else
      some (.inr (t6, t8, r1016, ((), ()), (r1000010.1, r1000010.2.1, r1000010.2.2.1, r1000010.2.2.2.1, r1000010.2.2.2.2), (r1000011.1, (), r1000011.2.2.1, r1000011.2.2.2.1, r1000011.2.2.2.2.1, r1000011.2.2.2.2.2), r2057))

noncomputable def annk34_0 : Ann := .none
noncomputable def Fk34 : (Unit × Unit) × (Int × (Nat → Int) × Int × Bool × Int) × (Int × Unit × Bool × Int × (Nat → Int) × Int) × List Int × Int → Option ((Bool × (Unit × Unit) × (Int × (Nat → Int) × Int × Bool × Int) × (Int × Unit × Bool × Int × (Nat → Int) × Int) × List Int))
  | (io, io10, io11, io12, a1) =>
    (Fk13 ((io10.1, io10.2.1, io10.2.2.1, io10.2.2.2.1, io10.2.2.2.2), a1)).bind fun (y1, y2, y3) =>
      if (decide (a1 < 0)) = false then
        if (decide (a1 > 65536)) = true then
          if ((y1.length : Int) == 0) = true then
            some ((y2 == 1), ((), ()), (y3.1, y3.2.1, y3.2.2.1, y3.2.2.2.1, y3.2.2.2.2), (io11.1, (), io11.2.2.1, io11.2.2.2.1, io11.2.2.2.2.1, io11.2.2.2.2.2), io12)
          else
            some (false, ((), ()), (y3.1, y3.2.1, y3.2.2.1, y3.2.2.2.1, y3.2.2.2.2), (io11.1, (), io11.2.2.1, io11.2.2.2.1, io11.2.2.2.2.1, io11.2.2.2.2.2), io12)
        else
          (Fk24p ((io11.1, (), io11.2.2.1, io11.2.2.2.1, io11.2.2.2.2.1, io11.2.2.2.2.2), io12)).bind fun (y4, y5, y6) =>
            if (decide (y4 ≥ 0)) = true then
              if (decide (a1 > y4)) = true then
                if ((y1.length : Int) == 0) = true then
                  some ((y2 == 33), ((), ()), (y3.1, y3.2.1, y3.2.2.1, y3.2.2.2.1, y3.2.2.2.2), (y5.1, (), y5.2.2.1, y5.2.2.2.1, y5.2.2.2.2.1, y5.2.2.2.2.2), y6)
                else
                  some (false, ((), ()), (y3.1, y3.2.1, y3.2.2.1, y3.2.2.2.1, y3.2.2.2.2), (y5.1, (), y5.2.2.1, y5.2.2.2.1, y5.2.2.2.2.1, y5.2.2.2.2.2), y6)
              else
                (Fk32p ((y5.1, (), y5.2.2.1, y5.2.2.2.1, y5.2.2.2.2.1, y5.2.2.2.2.2), y6, a1)).bind fun (y7, y8, y9) =>
                  (Fk15 (y1, y7)).bind fun y10 =>
                    (loopO stepk34_0 (y2, y10, 0, y1, ((), ()), (y3.1, y3.2.1, y3.2.2.1, y3.2.2.2.1, y3.2.2.2.2), (y8.1, (), y8.2.2.1, y8.2.2.2.1, y8.2.2.2.2.1, y8.2.2.2.2.2), y9)).bind fun (z11, z12, z13, z14, z15, z16, z17) =>
                      if okBytes (z13.length + (((List.replicate 2 (0 : Int)).set 0 55).set 1 55).length) 1 then
                        if z12 = true then
                          some ((z11 == 0), ((), ()), (z15.1, z15.2.1, z15.2.2.1, z15.2.2.2.1, z15.2.2.2.2), (z16.1, (), z16.2.2.1, z16.2.2.2.1, z16.2.2.2.2.1, z16.2.2.2.2.2), z17)
                        else
                          some (false, ((), ()), (z15.1, z15.2.1, z15.2.2.1, z15.2.2.2.1, z15.2.2.2.2), (z16.1, (), z16.2.2.1, z16.2.2.2.1, z16.2.2.2.2.1, z16.2.2.2.2.2), z17)
                      else none
            else
              (Fk32p ((y5.1, (), y5.2.2.1, y5.2.2.2.1, y5.2.2.2.2.1, y5.2.2.2.2.2), y6, a1)).bind fun (y18, y19, y20) =>
                (Fk15 (y1, y18)).bind fun y21 =>
                  (loopO stepk34_0 (y2, y21, 0, y1, ((), ()), (y3.1, y3.2.1, y3.2.2.1, y3.2.2.2.1, y3.2.2.2.2), (y19.1, (), y19.2.2.1, y19.2.2.2.1, y19.2.2.2.2.1, y19.2.2.2.2.2), y20)).bind fun (z22, z23, z24, z25, z26, z27, z28) =>
                    if okBytes (z24.length + (((List.replicate 2 (0 : Int)).set 0 55).set 1 55).length) 1 then
                      if z23 = true then
                        some ((z22 == 0), ((), ()), (z26.1, z26.2.1, z26.2.2.1, z26.2.2.2.1, z26.2.2.2.2), (z27.1, (), z27.2.2.1, z27.2.2.2.1, z27.2.2.2.2.1, z27.2.2.2.2.2), z28)
                      else
                        some (false, ((), ()), (z26.1, z26.2.1, z26.2.2.1, z26.2.2.2.1, z26.2.2.2.2), (z27.1, (), z27.2.2.1, z27.2.2.2.1, z27.2.2.2.2.1, z27.2.2.2.2.2), z28)
                    else none
      else
        if ((y1.length : Int) == 0) = true then
          some ((y2 == 1), ((), ()), (y3.1, y3.2.1, y3.2.2.1, y3.2.2.2.1, y3.2.2.2.2), (io11.1, (), io11.2.2.1, io11.2.2.2.1, io11.2.2.2.2.1, io11.2.2.2.2.2), io12)
        else
          some (false, ((), ()), (y3.1, y3.2.1, y3.2.2.1, y3.2.2.2.1, y3.2.2.2.2), (io11.1, (), io11.2.2.1, io11.2.2.2.1, io11.2.2.2.2.1, io11.2.2.2.2.2), io12)

noncomputable def annk34 : Ann := (.seq .none (.seq .none (.seq .none (.seq .none (.seq .none (.seq .none (.seq (.seq .none (.seq (.cut (cutEnt lk34_0 ok34_0 (loopO (stepk34_0)))) .none)) .none)))))))
theorem eqk34_0 : ∀ s : lk34_0.T, exec ktab (ofL Ek21v) 76 (Code.at' [1, 1, 1, 1, 1, 1, 0, 1, 0, 0] bodyk34) annk34_0 (fun e st => loopEnd (l := lk34_0) (outs := ok34_0) e st) (lk34_0.enc s) = stepk34_0 s := by
  rintro ⟨t6, t8, t9, r1016, r1000000, r1000010, r1000011, r2057⟩
  kernel_rfl
theorem okk34_0 : LOk Go.Proofs.Try.prog 76 (cutEnt lk34_0 ok34_0 (loopO stepk34_0)) (Code.at' [1, 1, 1, 1, 1, 1, 0, 1, 0] bodyk34) := by
  have e : Code.at' [1, 1, 1, 1, 1, 1, 0, 1, 0] bodyk34 = .loop (Code.at' [1, 1, 1, 1, 1, 1, 0, 1, 0, 0] bodyk34) := by kernel_rfl
  rw [e]
  refine loop_ok ck34 76 rfl rfl (annOk_of_cuts ?_) eqk34_0
  intro x hx
  exact absurd hx (by show x ∉ ([] : List (List Nat × LEnt)); simp)

theorem eqk34 : ∀ x : Sk34.inT, exec ktab (ofL Ek21v) 76 bodyk34 annk34 (finL ktab Sk34) (Sk34.inp.enc x) = Fk34 x := by
  rintro ⟨io, io10, io11, io12, a1⟩
  kernel_rfl
theorem callsk34 : CallsL Go.Proofs.Try.prog 34 Sk34 Fk34 := by
  refine fun_callsL (fn := Go.Proofs.Try.f34) (c := bodyk34) (ann := annk34) ck34 (by kernel_rfl) (by kernel_rfl) (by kernel_rfl) (by kernel_rfl) (by kernel_rfl) (annOk_of_cuts ?_) eqk34
  have hc : Ann.cuts annk34 = [([1, 1, 1, 1, 1, 1, 0, 1, 0], (cutEnt lk34_0 ok34_0 (loopO (stepk34_0))))] := by kernel_rfl
  rw [hc]
  intro x hx
  simp only [List.mem_cons, List.not_mem_nil, or_false] at hx
  rcases hx with rfl
  · have e : Code.at' [1, 1, 1, 1, 1, 1, 0, 1, 0] bodyk34 = Code.at' [1, 1, 1, 1, 1, 1, 0, 1, 0] bodyk34 := by kernel_rfl
    rw [e]; exact okk34_0

theorem entk34 : EntOk Go.Proofs.Try.prog 34 (funEntL Sk34 true Fk34) := fun_okL (fn := Go.Proofs.Try.f34) (c := bodyk34) (by kernel_rfl) (by kernel_rfl) (by kernel_rfl) (by kernel_rfl) callsk34
noncomputable def Ek34 : List (Nat × Ent) := (34, funEntL Sk34 true Fk34) :: Ek21v
theorem Ek34_ok : EntsOk Go.Proofs.Try.prog (ofL Ek34) := .cons entk34 Ek21v_ok

/-! ### (*barbican/barbicanlaw03.twin).step -/
noncomputable def bodyk22 : Code := (Go.Proofs.Try.f22.body).getD .skip
abbrev Sk22 : FL := ⟨⟨[(0, .ptr 1000000 0 2)], [.reg 1000000 (.cells [.ptr 1000010 0 29, .ptr 1000011 0 30]), .reg 1000010 (.cells [.int .i64, .ints .u64 25, .int .i64, .bool, .int .i64]), .reg 1000011 (.cells [.int .i64, .full 1000012, .bool, .int .i64, .ints .u64 25, .int .i64]), .reg 1000012 (.row 5 .u8), .env 1 (.agg [.int .i64, .int .i64, .fz (.int .u8)])], [(1000000, .env 0 0), (1000010, .reg 1000000 0), (1000011, .reg 1000000 1), (1000012, .reg 1000011 1)]⟩, 2, [(.ret, ⟨[], [.env 0 (.c (.bool)), .reg 1000000 (.cells [.ptr 1 0 29, .ptr 2 0 30]), .reg 1 (.cells [.int .i64, .ints .u64 25, .int .i64, .bool, .int .i64]), .reg 2 (.cells [.int .i64, .full 4, .bool, .int .i64, .ints .u64 25, .int .i64]), .reg 4 (.row 5 .u8)], [(1, .reg 1000000 0), (2, .reg 1000000 1), (4, .reg 2 1)]⟩), (.ret, ⟨[], [.env 0 (.c (.bool)), .reg 1000000 (.cells [.nilp, .ptr 1 0 30]), .reg 1 (.cells [.int .i64, .nils, .bool, .int .i64, .ints .u64 25, .int .i64])], [(1, .reg 1000000 1)]⟩)], [.tmp 4], false⟩
noncomputable def ck22 : Ctx Go.Proofs.Try.prog := ⟨ktab, ofL Ek34, ktabOk, Ek34_ok, kdep, kord⟩
abbrev lk22_0 : Lay := ⟨[(0, .ptr 1000000 0 2), (3, .ptr 3 0 3)], [.env 5 (.c (.sl 1018)), .env 6 (.c (.int .i64)), .env 7 (.c (.bool)), .env 8 (.c (.int .i64)), .reg 1000000 (.cells [.ptr 1000010 0 29, .ptr 1000011 0 30]), .reg 3 (.cells [.int .i64, .int .i64, .fz (.int .u8)]), .reg 1018 (.row 5 .u8), .reg 1000010 (.cells [.int .i64, .ints .u64 25, .int .i64, .bool, .int .i64]), .reg 1000011 (.cells [.int .i64, .full 1000012, .bool, .int .i64, .ints .u64 25, .int .i64]), .reg 1000012 (.row 5 .u8)], [(3, .env 3 0), (1018, .env 5 0)]⟩
abbrev ok22_0 : List (AExit × Lay) := [(.exit 1, ⟨[(0, .ptr 1000000 0 2), (3, .ptr 3 0 3)], [.env 6 (.c (.int .i64)), .env 7 (.c (.bool)), .reg 1000000 (.cells [.ptr 1000010 0 29, .ptr 1000011 0 30]), .reg 3 (.cells [.int .i64, .int .i64, .fz (.int .u8)]), .reg 1000010 (.cells [.int .i64, .ints .u64 25, .int .i64, .bool, .int .i64]), .reg 1000011 (.cells [.int .i64, .full 1000012, .bool, .int .i64, .ints .u64 25, .int .i64]), .reg 1000012 (.row 5 .u8)], [(3, .env 3 0)]⟩)]
noncomputable def stepk22_0 : (Nat × Nat) × Int × Bool × Int × (Unit × Unit) × (Int × Int × (List Int)) × List Int × (Int × (Nat → Int) × Int × Bool × Int) × (Int × Unit × Bool × Int × (Nat → Int) × Int) × List Int → Option (((Nat × Nat) × Int × Bool × Int × (Unit × Unit) × (Int × Int × (List Int)) × List Int × (Int × (Nat → Int) × Int × Bool × Int) × (Int × Unit × Bool × Int × (Nat → Int) × Int) × List Int) ⊕ ((Int × Bool × (Unit × Unit) × (Int × Int × (List Int)) × (Int × (Nat → Int) × Int × Bool × Int) × (Int × Unit × Bool × Int × (Nat → Int) × Int) × List Int)))
  | (t5, t6, t7, t8, r1000000, r3, r1018, r1000010, r1000011, r1000012) =>
    if (decide (t8 < ((t5.2 : Nat) : Int))) = true then
      if (0 : Int) ≤ t8 ∧ t8 < ((t5.2 : Nat) : Int) then
        some (.inl ((t5.1, t5.2), t6, t7, (IntKind.i64.wrap (t8 + 1)), ((), ()), (r3.1, r3.2.1, r3.2.2), (r1018.set (t5.1 + t8.toNat) 99), (r1000010.1, r1000010.2.1, r1000010.2.2.1, r1000010.2.2.2.1, r1000010.2.2.2.2), (r1000011.1, (), r1000011.2.2.1, r1000011.2.2.2.1, r1000011.2.2.2.2.1, r1000011.2.2.2.2.2), r1000012))
      else none
    else
      some (.inr (t6, t7, ((), ()), (r3.1, r3.2.1, r3.2.2), (r1000010.1, r1000010.2.1, r1000010.2.2.1, r1000010.2.2.2.1, r1000010.2.2.2.2), (r1000011.1, (), r1000011.2.2.1, r1000011.2.2.2.1, r1000011.2.2.2.2.1, r1000011.2.2.2.2.2), r1000012))

noncomputable def annk22_0 : Ann := .none
noncomputable def Fk22 : (Unit × Unit) × (Int × (Nat → Int) × Int × Bool × Int) × (Int × Unit × Bool × Int × (Nat → Int) × Int) × List Int × (Int × Int × (List Int)) → Option ((Bool × (Unit × Unit) × (Int × (Nat → Int) × Int × Bool × Int) × (Int × Unit × Bool × Int × (Nat → Int) × Int) × List Int) ⊕ (Bool × (Unit × Unit) × (Int × Unit × Bool × Int × (Nat → Int) × Int)))
  | (io, io10, io11, io12, a1) =>
    if (a1.1 == 1) = true then
      (Fk16 a1.2.2).bind fun (y1, y2) =>
        (Fk12 ((io10.1, io10.2.1, io10.2.2.1, io10.2.2.2.1, io10.2.2.2.2), ((y2.drop 0).take y1))).bind fun (y3, y4) =>
          (Fk19 ((y2, y1), a1.2.2)).bind fun y5 =>
            (loopO stepk22_0 ((0, y1), y3, y5, 0, ((), ()), (a1.1, a1.2.1, a1.2.2), y2, (y4.1, y4.2.1, y4.2.2.1, y4.2.2.2.1, y4.2.2.2.2), (io11.1, (), io11.2.2.1, io11.2.2.2.1, io11.2.2.2.2.1, io11.2.2.2.2.2), io12)).bind fun (z6, z7, z8, z9, z10, z11, z12) =>
              if z11.2.2.1 = true then
                if z7 = true then
                  some (.inl ((z6 == 32), ((), ()), (z10.1, z10.2.1, z10.2.2.1, z10.2.2.2.1, z10.2.2.2.2), (z11.1, (), z11.2.2.1, z11.2.2.2.1, z11.2.2.2.2.1, z11.2.2.2.2.2), z12))
                else
                  some (.inl (false, ((), ()), (z10.1, z10.2.1, z10.2.2.1, z10.2.2.2.1, z10.2.2.2.2), (z11.1, (), z11.2.2.1, z11.2.2.2.1, z11.2.2.2.2.1, z11.2.2.2.2.2), z12))
              else
                if okBytes (z12.length + z9.2.2.length) 1 then
                  if z7 = true then
                    some (.inl ((z6 == 0), ((), ()), (z10.1, z10.2.1, z10.2.2.1, z10.2.2.2.1, z10.2.2.2.2), (z11.1, (), z11.2.2.1, z11.2.2.2.1, z11.2.2.2.2.1, z11.2.2.2.2.2), (z12 ++ z9.2.2)))
                  else
                    some (.inl (false, ((), ()), (z10.1, z10.2.1, z10.2.2.1, z10.2.2.2.1, z10.2.2.2.2), (z11.1, (), z11.2.2.1, z11.2.2.2.1, z11.2.2.2.2.1, z11.2.2.2.2.2), (z12 ++ z9.2.2)))
                else none
    else
      if (a1.1 == 2) = true then
        (Fk34 (((), ()), (io10.1, io10.2.1, io10.2.2.1, io10.2.2.2.1, io10.2.2.2.2), (io11.1, (), io11.2.2.1, io11.2.2.2.1, io11.2.2.2.2.1, io11.2.2.2.2.2), io12, a1.2.1)).bind fun (y13, y14, y15, y16, y17) =>
          some (.inl (y13, ((), ()), (y15.1, y15.2.1, y15.2.2.1, y15.2.2.2.1, y15.2.2.2.2), (y16.1, (), y16.2.2.1, y16.2.2.2.1, y16.2.2.2.2.1, y16.2.2.2.2.2), y17))
      else
        if (a1.1 == 3) = true then
          if (a1.1 == 3) = true then
            (Fk25 (io10.1, io10.2.1, io10.2.2.1, io10.2.2.2.1, io10.2.2.2.2)).bind fun (y18, y19) =>
              if (a1.1 == 3) = true then
                let f20 : List Int := ((((((((((((((List.replicate 13 (0 : Int)).set 0 116).set 1 104).set 2 101).set 3 32).set 4 111).set 5 116).set 6 104).set 7 101).set 8 114).set 9 32).set 10 111).set 11 110).set 12 101)
                (Fk12 ((y19.1, y19.2.1, y19.2.2.1, y19.2.2.2.1, y19.2.2.2.2), f20)).bind fun (y21, y22) =>
                  (Fk13 ((y22.1, y22.2.1, y22.2.2.1, y22.2.2.2.1, y22.2.2.2.2), 9)).bind fun (y23, y24, y25) =>
                    some (.inl (true, ((), ()), (y18.1, y18.2.1, y18.2.2.1, y18.2.2.2.1, y18.2.2.2.2), (io11.1, (), io11.2.2.1, io11.2.2.2.1, io11.2.2.2.2.1, io11.2.2.2.2.2), io12))
              else
                let f26 : List Int := ((((((((((((((List.replicate 13 (0 : Int)).set 0 116).set 1 104).set 2 101).set 3 32).set 4 111).set 5 116).set 6 104).set 7 101).set 8 114).set 9 32).set 10 111).set 11 110).set 12 101)
                (Fk12 ((y18.1, y18.2.1, y18.2.2.1, y18.2.2.2.1, y18.2.2.2.2), f26)).bind fun (y27, y28) =>
                  (Fk13 ((y28.1, y28.2.1, y28.2.2.1, y28.2.2.2.1, y28.2.2.2.2), 9)).bind fun (y29, y30, y31) =>
                    some (.inl (true, ((), ()), (y19.1, y19.2.1, y19.2.2.1, y19.2.2.2.1, y19.2.2.2.2), (io11.1, (), io11.2.2.1, io11.2.2.2.1, io11.2.2.2.2.1, io11.2.2.2.2.2), io12))
          else
            if (a1.1 == 5) = true then
              (Fk21v (((), ()), (io10.1, io10.2.1, io10.2.2.1, io10.2.2.2.1, io10.2.2.2.2), (io11.1, (), io11.2.2.1, io11.2.2.2.1, io11.2.2.2.2.1, io11.2.2.2.2.2), io12, a1.2.1)).bind fun
                | (.inl (y32, y33, y34, y35, y36, y37)) =>
                  some (.inl (y32, ((), ()), (y35.1, y35.2.1, y35.2.2.1, y35.2.2.2.1, y35.2.2.2.2), (y36.1, (), y36.2.2.1, y36.2.2.2.1, y36.2.2.2.2.1, y36.2.2.2.2.2), y37))
                | (.inr (y38, y39, y40, y41)) =>
                  some (.inr (y38, ((), ()), (y41.1, (), y41.2.2.1, y41.2.2.2.1, y41.2.2.2.2.1, y41.2.2.2.2.2)))
            else
              some (.inl (true, ((), ()), (io10.1, io10.2.1, io10.2.2.1, io10.2.2.2.1, io10.2.2.2.2), (io11.1, (), io11.2.2.1, io11.2.2.2.1, io11.2.2.2.2.1, io11.2.2.2.2.2), io12))
        else
          if (a1.1 == 4) = true then
            (Fk25 (io10.1, io10.2.1, io10.2.2.1, io10.2.2.2.1, io10.2.2.2.2)).bind fun (y42, y43) =>
              if (a1.1 == 3) = true then
                let f44 : List Int := ((((((((((((((List.replicate 13 (0 : Int)).set 0 116).set 1 104).set 2 101).set 3 32).set 4 111).set 5 116).set 6 104).set 7 101).set 8 114).set 9 32).set 10 111).set 11 110).set 12 101)
                (Fk12 ((y43.1, y43.2.1, y43.2.2.1, y43.2.2.2.1, y43.2.2.2.2), f44)).bind fun (y45, y46) =>
                  (Fk13 ((y46.1, y46.2.1, y46.2.2.1, y46.2.2.2.1, y46.2.2.2.2), 9)).bind fun (y47, y48, y49) =>
                    some (.inl (true, ((), ()), (y42.1, y42.2.1, y42.2.2.1, y42.2.2.2.1, y42.2.2.2.2), (io11.1, (), io11.2.2.1, io11.2.2.2.1, io11.2.2.2.2.1, io11.2.2.2.2.2), io12))
              else
                let f50 : List Int := ((((((((((((((List.replicate 13 (0 : Int)).set 0 116).set 1 104).set 2 101).set 3 32).set 4 111).set 5 116).set 6 104).set 7 101).set 8 114).set 9 32).set 10 111).set 11 110).set 12 101)
                (Fk12 ((y42.1, y42.2.1, y42.2.2.1, y42.2.2.2.1, y42.2.2.2.2), f50)).bind fun (y51, y52) =>
                  (Fk13 ((y52.1, y52.2.1, y52.2.2.1, y52.2.2.2.1, y52.2.2.2.2), 9)).bind fun (y53, y54, y55) =>
                    some (.inl (true, ((), ()), (y43.1, y43.2.1, y43.2.2.1, y43.2.2.2.1, y43.2.2.2.2), (io11.1, (), io11.2.2.1, io11.2.2.2.1, io11.2.2.2.2.1, io11.2.2.2.2.2), io12))
          else
            if (a1.1 == 5) = true then
              (Fk21v (((), ()), (io10.1, io10.2.1, io10.2.2.1, io10.2.2.2.1, io10.2.2.2.2), (io11.1, (), io11.2.2.1, io11.2.2.2.1, io11.2.2.2.2.1, io11.2.2.2.2.2), io12, a1.2.1)).bind fun
                | (.inl (y56, y57, y58, y59, y60, y61)) =>
                  some (.inl (y56, ((), ()), (y59.1, y59.2.1, y59.2.2.1, y59.2.2.2.1, y59.2.2.2.2), (y60.1, (), y60.2.2.1, y60.2.2.2.1, y60.2.2.2.2.1, y60.2.2.2.2.2), y61))
                | (.inr (y62, y63, y64, y65)) =>
                  some (.inr (y62, ((), ()), (y65.1, (), y65.2.2.1, y65.2.2.2.1, y65.2.2.2.2.1, y65.2.2.2.2.2)))
            else
              some (.inl (true, ((), ()), (io10.1, io10.2.1, io10.2.2.1, io10.2.2.2.1, io10.2.2.2.2), (io11.1, (), io11.2.2.1, io11.2.2.2.1, io11.2.2.2.2.1, io11.2.2.2.2.2), io12))

noncomputable def annk22 : Ann := (.seq .none (.seq (.seq .none (.seq (.seq .none (.seq (.seq .none (.seq .none (.seq .none (.seq (.seq .none (.seq (.cut (cutEnt lk22_0 ok22_0 (loopO (stepk22_0)))) .none)) .none)))) .none)) .none)) .none))
theorem eqk22_0 : ∀ s : lk22_0.T, exec ktab (ofL Ek34) 114 (Code.at' [1, 0, 1, 0, 1, 0, 1, 1, 1, 0, 1, 0, 0] bodyk22) annk22_0 (fun e st => loopEnd (l := lk22_0) (outs := ok22_0) e st) (lk22_0.enc s) = stepk22_0 s := by
  rintro ⟨t5, t6, t7, t8, r1000000, r3, r1018, r1000010, r1000011, r1000012⟩
  kernel_rfl
theorem okk22_0 : LOk Go.Proofs.Try.prog 114 (cutEnt lk22_0 ok22_0 (loopO stepk22_0)) (Code.at' [1, 0, 1, 0, 1, 0, 1, 1, 1, 0, 1, 0] bodyk22) := by
  have e : Code.at' [1, 0, 1, 0, 1, 0, 1, 1, 1, 0, 1, 0] bodyk22 = .loop (Code.at' [1, 0, 1, 0, 1, 0, 1, 1, 1, 0, 1, 0, 0] bodyk22) := by kernel_rfl
  rw [e]
  refine loop_ok ck22 114 rfl rfl (annOk_of_cuts ?_) eqk22_0
  intro x hx
  exact absurd hx (by show x ∉ ([] : List (List Nat × LEnt)); simp)

theorem eqk22 : ∀ x : Sk22.inT, exec ktab (ofL Ek34) 114 bodyk22 annk22 (finL ktab Sk22) (Sk22.inp.enc x) = Fk22 x := by
  rintro ⟨io, io10, io11, io12, a1⟩
  kernel_rfl
theorem callsk22 : CallsL Go.Proofs.Try.prog 22 Sk22 Fk22 := by
  refine fun_callsL (fn := Go.Proofs.Try.f22) (c := bodyk22) (ann := annk22) ck22 (by kernel_rfl) (by kernel_rfl) (by kernel_rfl) (by kernel_rfl) (by kernel_rfl) (annOk_of_cuts ?_) eqk22
  have hc : Ann.cuts annk22 = [([1, 0, 1, 0, 1, 0, 1, 1, 1, 0, 1, 0], (cutEnt lk22_0 ok22_0 (loopO (stepk22_0))))] := by kernel_rfl
  rw [hc]
  intro x hx
  simp only [List.mem_cons, List.not_mem_nil, or_false] at hx
  rcases hx with rfl
  · have e : Code.at' [1, 0, 1, 0, 1, 0, 1, 1, 1, 0, 1, 0] bodyk22 = Code.at' [1, 0, 1, 0, 1, 0, 1, 1, 1, 0, 1, 0] bodyk22 := by kernel_rfl
    rw [e]; exact okk22_0

theorem entk22 : EntOk Go.Proofs.Try.prog 22 (funEntL Sk22 true Fk22) := fun_okL (fn := Go.Proofs.Try.f22) (c := bodyk22) (by kernel_rfl) (by kernel_rfl) (by kernel_rfl) (by kernel_rfl) callsk22
noncomputable def Ek22 : List (Nat × Ent) := (22, funEntL Sk22 true Fk22) :: Ek34
theorem Ek22_ok : EntsOk Go.Proofs.Try.prog (ofL Ek22) := .cons entk22 Ek34_ok

/-! ### (*barbican/barbicanlaw03.twin).begun -/
noncomputable def bodyk21 : Code := (Go.Proofs.Try.f21.body).getD .skip
abbrev Sk21 : FL := ⟨⟨[(0, .ptr 1000000 0 2)], [.reg 1000000 (.cells [.nilp, .nilp]), .env 1 (.c (.int .i64))], [(1000000, .env 0 0)]⟩, 2, [(.ret, ⟨[], [.env 0 (.c (.bool)), .env 1 (.c (.bool)), .reg 1000000 (.cells [.ptr 1 0 29, .ptr 2 0 30]), .reg 1 (.cells [.int .i64, .ints .u64 25, .int .i64, .bool, .int .i64]), .reg 2 (.cells [.int .i64, .nils, .bool, .int .i64, .ints .u64 25, .int .i64])], [(1, .reg 1000000 0), (2, .reg 1000000 1)]⟩), (.ret, ⟨[], [.env 0 (.c (.bool)), .env 1 (.c (.bool)), .reg 1000000 (.cells [.nilp, .nilp])], []⟩), (.ret, ⟨[], [.env 0 (.c (.bool)), .env 1 (.c (.bool)), .reg 1000000 (.cells [.nilp, .ptr 1 0 30]), .reg 1 (.cells [.int .i64, .nils, .bool, .int .i64, .ints .u64 25, .int .i64])], [(1, .reg 1000000 1)]⟩)], [.tmp 4, .tmp 5], false⟩
noncomputable def ck21 : Ctx Go.Proofs.Try.prog := ⟨ktab, ofL Ek22, ktabOk, Ek22_ok, kdep, kord⟩
noncomputable def Fk21 : (Unit × Unit) × Int → Option ((Bool × Bool × (Unit × Unit) × (Int × (Nat → Int) × Int × Bool × Int) × (Int × Unit × Bool × Int × (Nat → Int) × Int)) ⊕ (Bool × Bool × (Unit × Unit)) ⊕ (Bool × Bool × (Unit × Unit) × (Int × Unit × Bool × Int × (Nat → Int) × Int)))
  | (io, a1) =>
    (Fk11 a1).bind fun
      | (.inl (y1, y2)) =>
        (Fk33 a1).bind fun (y3, y4, y5, y6) =>
          if (!(y6 == (y2 == 0))) = false then
            if (!(y6 == true)) = false then
              if (!y6) = true then
                if (y2 != 31) = true then
                  some (.inr (.inl (false, false, ((), ()))))
                else
                  if y6 = true then
                    some (.inl (true, y6, ((), ()), (y1.1, y1.2.1, y1.2.2.1, y1.2.2.2.1, y1.2.2.2.2), (a1, (), false, 0, (fun _ => 0), 0)))
                  else
                    some (.inr (.inl (true, y6, ((), ()))))
              else
                if y6 = true then
                  some (.inl (true, y6, ((), ()), (y1.1, y1.2.1, y1.2.2.1, y1.2.2.2.1, y1.2.2.2.2), (a1, (), false, 0, (fun _ => 0), 0)))
                else
                  some (.inr (.inl (true, y6, ((), ()))))
            else
              some (.inr (.inl (false, false, ((), ()))))
          else
            some (.inr (.inl (false, false, ((), ()))))
      | (.inr y7) =>
        (Fk33 a1).bind fun (y8, y9, y10, y11) =>
          if (!(y11 == (y7 == 0))) = false then
            if (!(y11 == false)) = false then
              if (!y11) = true then
                if (y7 != 31) = true then
                  some (.inr (.inl (false, false, ((), ()))))
                else
                  if y11 = true then
                    some (.inr (.inr (true, y11, ((), ()), (a1, (), false, 0, (fun _ => 0), 0))))
                  else
                    some (.inr (.inl (true, y11, ((), ()))))
              else
                if y11 = true then
                  some (.inr (.inr (true, y11, ((), ()), (a1, (), false, 0, (fun _ => 0), 0))))
                else
                  some (.inr (.inl (true, y11, ((), ()))))
            else
              some (.inr (.inl (false, false, ((), ()))))
          else
            some (.inr (.inl (false, false, ((), ()))))

noncomputable def annk21 : Ann := .none
theorem eqk21 : ∀ x : Sk21.inT, exec ktab (ofL Ek22) 54 bodyk21 annk21 (finL ktab Sk21) (Sk21.inp.enc x) = Fk21 x := by
  rintro ⟨io, a1⟩
  kernel_rfl
theorem callsk21 : CallsL Go.Proofs.Try.prog 21 Sk21 Fk21 := by
  refine fun_callsL (fn := Go.Proofs.Try.f21) (c := bodyk21) (ann := annk21) ck21 (by kernel_rfl) (by kernel_rfl) (by kernel_rfl) (by kernel_rfl) (by kernel_rfl) (annOk_of_cuts ?_) eqk21
  intro x hx
  exact absurd hx (by show x ∉ ([] : List (List Nat × LEnt)); simp)

theorem entk21 : EntOk Go.Proofs.Try.prog 21 (funEntL Sk21 true Fk21) := fun_okL (fn := Go.Proofs.Try.f21) (c := bodyk21) (by kernel_rfl) (by kernel_rfl) (by kernel_rfl) (by kernel_rfl) callsk21
noncomputable def Ek21 : List (Nat × Ent) := (21, funEntL Sk21 true Fk21) :: Ek22
theorem Ek21_ok : EntsOk Go.Proofs.Try.prog (ofL Ek21) := .cons entk21 Ek22_ok

/-! ### barbican/barbicanlaw03.KecPlays -/
noncomputable def bodyk6 : Code := (Go.Proofs.Try.f6.body).getD .skip
abbrev Sk6 : FL := ⟨⟨[], [.env 0 (.c (.int .i64)), .env 1 (.c (.fz (.pair (.int .i64) (.pair (.int .i64) (.sl (.int .u8))))))], []⟩, 2, [(.ret, ⟨[], [.env 0 (.c (.bool))], []⟩)], [.tmp 4], false⟩
noncomputable def ck6 : Ctx Go.Proofs.Try.prog := ⟨ktab, ofL Ek21, ktabOk, Ek21_ok, kdep, kord⟩
abbrev lk6_0 : Lay := ⟨[(6, .ptr 13 0 2)], [.env 1 (.c (.fz (.pair (.int .i64) (.pair (.int .i64) (.sl (.int .u8)))))), .env 9 (.c (.int .i64)), .reg 13 (.cells [.ptr 1017 0 29, .ptr 2017 0 30]), .reg 1017 (.cells [.int .i64, .ints .u64 25, .int .i64, .bool, .int .i64]), .reg 2017 (.cells [.int .i64, .full 601089, .bool, .int .i64, .ints .u64 25, .int .i64]), .reg 601089 (.row 5 .u8)], [(13, .env 6 0), (1017, .reg 13 0), (2017, .reg 13 1), (601089, .reg 2017 1)]⟩
abbrev ok6_0 : List (AExit × Lay) := [(.ret, ⟨[], [.env 4 (.c (.bool))], []⟩), (.exit 0, ⟨[], [], []⟩)]
noncomputable def stepk6_0 : (List (Int × (Int × (List Int)))) × Int × (Unit × Unit) × (Int × (Nat → Int) × Int × Bool × Int) × (Int × Unit × Bool × Int × (Nat → Int) × Int) × List Int → Option (((List (Int × (Int × (List Int)))) × Int × (Unit × Unit) × (Int × (Nat → Int) × Int × Bool × Int) × (Int × Unit × Bool × Int × (Nat → Int) × Int) × List Int) ⊕ ((Bool) ⊕ (Unit)))
  | (t1, t9, r13, r1017, r2017, r601089) =>
    if (decide (t9 < (t1.length : Int))) = true then
      if (decide (t9 < 100)) = true then
        if (0 : Int) ≤ t9 ∧ t9 < (t1.length : Int) then
          let x7 : Int := (t1.getD t9.toNat (DT.dflt (.pair (.int .i64) (.pair (.int .i64) (.sl (.int .u8)))))).1
          let x8 : Int := (t1.getD t9.toNat (DT.dflt (.pair (.int .i64) (.pair (.int .i64) (.sl (.int .u8)))))).2.1
          let f9 : List Int := (t1.getD t9.toNat (DT.dflt (.pair (.int .i64) (.pair (.int .i64) (.sl (.int .u8)))))).2.2
          (Fk22 (((), ()), (r1017.1, r1017.2.1, r1017.2.2.1, r1017.2.2.2.1, r1017.2.2.2.2), (r2017.1, (), r2017.2.2.1, r2017.2.2.2.1, r2017.2.2.2.2.1, r2017.2.2.2.2.2), r601089, (x7, x8, f9))).bind fun
            | (.inl (y10, y11, y12, y13, y14)) =>
              if (!y10) = false then
                (Fk23 (y12.1, y12.2.1, y12.2.2.1, y12.2.2.2.1, y12.2.2.2.2)).bind fun (y15, y16) =>
                  (Fk24p ((y13.1, (), y13.2.2.1, y13.2.2.2.1, y13.2.2.2.2.1, y13.2.2.2.2.2), y14)).bind fun (y17, y18, y19) =>
                    if (y15 != y17) = true then
                      some (.inr (.inl false))
                    else
                      some (.inl (t1, (IntKind.i64.wrap (t9 + 1)), ((), ()), (y16.1, y16.2.1, y16.2.2.1, y16.2.2.2.1, y16.2.2.2.2), (y18.1, (), y18.2.2.1, y18.2.2.2.1, y18.2.2.2.2.1, y18.2.2.2.2.2), y19))
              else
                some (.inr (.inl false))
            | (.inr (y20, y21, y22)) =>
              if (!y20) = false then
                none
              else
                some (.inr (.inl false))
        else none
      else
        some (.inr (.inr ()))
    else
      some (.inr (.inr ()))

noncomputable def annk6_0 : Ann := .none
noncomputable def Fk6 : Int × (List (Int × (Int × (List Int)))) → Option ((Bool))
  | (a0, a1) =>
    (Fk8 ()).bind fun y1 =>
      (Fk21 (((), ()), a0)).bind fun
        | (.inl (y2, y3, y4, y5, y6)) =>
          if (!y1) = false then
            if (!y2) = false then
              if (!y3) = true then
                if y1 = true then
                  some y2
                else
                  some false
              else
                (loopO stepk6_0 (a1, 0, ((), ()), (y5.1, y5.2.1, y5.2.2.1, y5.2.2.2.1, y5.2.2.2.2), (y6.1, (), y6.2.2.1, y6.2.2.2.1, y6.2.2.2.2.1, y6.2.2.2.2.2), ([] : List Int))).bind fun
                  | (.inl z23) =>
                    some z23
                  | (.inr _) =>
                    some true
            else
              if y1 = true then
                some y2
              else
                some false
          else
            if y1 = true then
              some y2
            else
              some false
        | (.inr (.inl (y24, y25, y26))) =>
          if (!y1) = false then
            if (!y24) = false then
              if (!y25) = true then
                if y1 = true then
                  some y24
                else
                  some false
              else none
            else
              if y1 = true then
                some y24
              else
                some false
          else
            if y1 = true then
              some y24
            else
              some false
        | (.inr (.inr (y27, y28, y29, y30))) =>
          if (!y1) = false then
            if (!y27) = false then
              if (!y28) = true then
                if y1 = true then
                  some y27
                else
                  some false
              else none
            else
              if y1 = true then
                some y27
              else
                some false
          else
            if y1 = true then
              some y27
            else
              some false

noncomputable def annk6 : Ann := (.seq .none (.seq .none (.seq .none (.seq .none (.seq .none (.seq (.seq .none (.seq (.cut (cutEnt lk6_0 ok6_0 (loopO (stepk6_0)))) .none)) .none))))))
theorem eqk6_0 : ∀ s : lk6_0.T, exec ktab (ofL Ek21) 65 (Code.at' [1, 1, 1, 1, 1, 0, 1, 0, 0] bodyk6) annk6_0 (fun e st => loopEnd (l := lk6_0) (outs := ok6_0) e st) (lk6_0.enc s) = stepk6_0 s := by
  rintro ⟨t1, t9, r13, r1017, r2017, r601089⟩
  kernel_rfl
theorem okk6_0 : LOk Go.Proofs.Try.prog 65 (cutEnt lk6_0 ok6_0 (loopO stepk6_0)) (Code.at' [1, 1, 1, 1, 1, 0, 1, 0] bodyk6) := by
  have e : Code.at' [1, 1, 1, 1, 1, 0, 1, 0] bodyk6 = .loop (Code.at' [1, 1, 1, 1, 1, 0, 1, 0, 0] bodyk6) := by kernel_rfl
  rw [e]
  refine loop_ok ck6 65 rfl rfl (annOk_of_cuts ?_) eqk6_0
  intro x hx
  exact absurd hx (by show x ∉ ([] : List (List Nat × LEnt)); simp)

theorem eqk6 : ∀ x : Sk6.inT, exec ktab (ofL Ek21) 65 bodyk6 annk6 (finL ktab Sk6) (Sk6.inp.enc x) = Fk6 x := by
  rintro ⟨a0, a1⟩
  kernel_rfl
theorem callsk6 : CallsL Go.Proofs.Try.prog 6 Sk6 Fk6 := by
  refine fun_callsL (fn := Go.Proofs.Try.f6) (c := bodyk6) (ann := annk6) ck6 (by kernel_rfl) (by kernel_rfl) (by kernel_rfl) (by kernel_rfl) (by kernel_rfl) (annOk_of_cuts ?_) eqk6
  have hc : Ann.cuts annk6 = [([1, 1, 1, 1, 1, 0, 1, 0], (cutEnt lk6_0 ok6_0 (loopO (stepk6_0))))] := by kernel_rfl
  rw [hc]
  intro x hx
  simp only [List.mem_cons, List.not_mem_nil, or_false] at hx
  rcases hx with rfl
  · have e : Code.at' [1, 1, 1, 1, 1, 0, 1, 0] bodyk6 = Code.at' [1, 1, 1, 1, 1, 0, 1, 0] bodyk6 := by kernel_rfl
    rw [e]; exact okk6_0

theorem entk6 : EntOk Go.Proofs.Try.prog 6 (funEntL Sk6 true Fk6) := fun_okL (fn := Go.Proofs.Try.f6) (c := bodyk6) (by kernel_rfl) (by kernel_rfl) (by kernel_rfl) (by kernel_rfl) callsk6
noncomputable def Ek6 : List (Nat × Ent) := (6, funEntL Sk6 true Fk6) :: Ek21
theorem Ek6_ok : EntsOk Go.Proofs.Try.prog (ofL Ek6) := .cons entk6 Ek21_ok

/-! ### (*barbican/keccak.Sponge).Write -/
noncomputable def bodyk12n : Code := (Go.Proofs.Try.f12.body).getD .skip
abbrev Sk12n : FL := ⟨⟨[(0, .nilp)], [.env 1 (.c (.fz (.int .u8)))], []⟩, 2, [(.ret, ⟨[], [.env 0 (.c (.int .i64))], []⟩)], [.tmp 4], false⟩
noncomputable def ck12n : Ctx Go.Proofs.Try.prog := ⟨ktab, ofL Ek6, ktabOk, Ek6_ok, kdep, kord⟩
noncomputable def Fk12n : (List Int) → Option ((Int))
  | a1 =>
    some 1

noncomputable def annk12n : Ann := .none
theorem eqk12n : ∀ x : Sk12n.inT, exec ktab (ofL Ek6) 58 bodyk12n annk12n (finL ktab Sk12n) (Sk12n.inp.enc x) = Fk12n x := by
  intro x
  kernel_rfl
theorem callsk12n : CallsL Go.Proofs.Try.prog 12 Sk12n Fk12n := by
  refine fun_callsL (fn := Go.Proofs.Try.f12) (c := bodyk12n) (ann := annk12n) ck12n (by kernel_rfl) (by kernel_rfl) (by kernel_rfl) (by kernel_rfl) (by kernel_rfl) (annOk_of_cuts ?_) eqk12n
  intro x hx
  exact absurd hx (by show x ∉ ([] : List (List Nat × LEnt)); simp)

theorem entk12n : EntOk Go.Proofs.Try.prog 12 (funEntL Sk12n true Fk12n) := fun_okL (fn := Go.Proofs.Try.f12) (c := bodyk12n) (by kernel_rfl) (by kernel_rfl) (by kernel_rfl) (by kernel_rfl) callsk12n
noncomputable def Ek12n : List (Nat × Ent) := (12, funEntL Sk12n true Fk12n) :: Ek6
theorem Ek12n_ok : EntsOk Go.Proofs.Try.prog (ofL Ek12n) := .cons entk12n Ek6_ok

/-! ### (*barbican/keccak.Sponge).Read -/
noncomputable def bodyk13n : Code := (Go.Proofs.Try.f13.body).getD .skip
abbrev Sk13n : FL := ⟨⟨[(0, .nilp)], [.env 1 (.c (.int .i64))], []⟩, 2, [(.ret, ⟨[(0, .full 1)], [.reg 1 (.row 5 .u8), .env 1 (.c (.int .i64))], [(1, .env 0 0)]⟩)], [.tmp 4, .tmp 5], false⟩
noncomputable def ck13n : Ctx Go.Proofs.Try.prog := ⟨ktab, ofL Ek12n, ktabOk, Ek12n_ok, kdep, kord⟩
noncomputable def Fk13n : Int → Option ((List Int × Int))
  | a1 =>
    some (([] : List Int), 1)

noncomputable def annk13n : Ann := .none
theorem eqk13n : ∀ x : Sk13n.inT, exec ktab (ofL Ek12n) 141 bodyk13n annk13n (finL ktab Sk13n) (Sk13n.inp.enc x) = Fk13n x := by
  intro x
  kernel_rfl
theorem callsk13n : CallsL Go.Proofs.Try.prog 13 Sk13n Fk13n := by
  refine fun_callsL (fn := Go.Proofs.Try.f13) (c := bodyk13n) (ann := annk13n) ck13n (by kernel_rfl) (by kernel_rfl) (by kernel_rfl) (by kernel_rfl) (by kernel_rfl) (annOk_of_cuts ?_) eqk13n
  intro x hx
  exact absurd hx (by show x ∉ ([] : List (List Nat × LEnt)); simp)

theorem entk13n : EntOk Go.Proofs.Try.prog 13 (funEntL Sk13n true Fk13n) := fun_okL (fn := Go.Proofs.Try.f13) (c := bodyk13n) (by kernel_rfl) (by kernel_rfl) (by kernel_rfl) (by kernel_rfl) callsk13n
noncomputable def Ek13n : List (Nat × Ent) := (13, funEntL Sk13n true Fk13n) :: Ek12n
theorem Ek13n_ok : EntsOk Go.Proofs.Try.prog (ofL Ek13n) := .cons entk13n Ek12n_ok

/-! ### (*barbican/keccak.Sponge).Left -/
noncomputable def bodyk23n : Code := (Go.Proofs.Try.f23.body).getD .skip
abbrev Sk23n : FL := ⟨⟨[(0, .nilp)], [], []⟩, 1, [(.ret, ⟨[], [.env 0 (.c (.int .i64))], []⟩)], [.tmp 2], false⟩
noncomputable def ck23n : Ctx Go.Proofs.Try.prog := ⟨ktab, ofL Ek13n, ktabOk, Ek13n_ok, kdep, kord⟩
noncomputable def Fk23n : Unit → Option ((Int))
  | _ =>
    some 0

noncomputable def annk23n : Ann := .none
theorem eqk23n : ∀ x : Sk23n.inT, exec ktab (ofL Ek13n) 9 bodyk23n annk23n (finL ktab Sk23n) (Sk23n.inp.enc x) = Fk23n x := by
  intro x
  kernel_rfl
theorem callsk23n : CallsL Go.Proofs.Try.prog 23 Sk23n Fk23n := by
  refine fun_callsL (fn := Go.Proofs.Try.f23) (c := bodyk23n) (ann := annk23n) ck23n (by kernel_rfl) (by kernel_rfl) (by kernel_rfl) (by kernel_rfl) (by kernel_rfl) (annOk_of_cuts ?_) eqk23n
  intro x hx
  exact absurd hx (by show x ∉ ([] : List (List Nat × LEnt)); simp)

theorem entk23n : EntOk Go.Proofs.Try.prog 23 (funEntL Sk23n true Fk23n) := fun_okL (fn := Go.Proofs.Try.f23) (c := bodyk23n) (by kernel_rfl) (by kernel_rfl) (by kernel_rfl) (by kernel_rfl) callsk23n
noncomputable def Ek23n : List (Nat × Ent) := (23, funEntL Sk23n true Fk23n) :: Ek13n
theorem Ek23n_ok : EntsOk Go.Proofs.Try.prog (ofL Ek23n) := .cons entk23n Ek13n_ok

/-! ### (*barbican/keccak.Sponge).Copy -/
noncomputable def bodyk25n : Code := (Go.Proofs.Try.f25.body).getD .skip
abbrev Sk25n : FL := ⟨⟨[(0, .nilp)], [], []⟩, 1, [(.ret, ⟨[(0, .nilp)], [], []⟩)], [.tmp 2], false⟩
noncomputable def ck25n : Ctx Go.Proofs.Try.prog := ⟨ktab, ofL Ek23n, ktabOk, Ek23n_ok, kdep, kord⟩
noncomputable def Fk25n : Unit → Option ((Unit))
  | _ =>
    some ()

noncomputable def annk25n : Ann := .none
theorem eqk25n : ∀ x : Sk25n.inT, exec ktab (ofL Ek23n) 9 bodyk25n annk25n (finL ktab Sk25n) (Sk25n.inp.enc x) = Fk25n x := by
  intro x
  kernel_rfl
theorem callsk25n : CallsL Go.Proofs.Try.prog 25 Sk25n Fk25n := by
  refine fun_callsL (fn := Go.Proofs.Try.f25) (c := bodyk25n) (ann := annk25n) ck25n (by kernel_rfl) (by kernel_rfl) (by kernel_rfl) (by kernel_rfl) (by kernel_rfl) (annOk_of_cuts ?_) eqk25n
  intro x hx
  exact absurd hx (by show x ∉ ([] : List (List Nat × LEnt)); simp)

theorem entk25n : EntOk Go.Proofs.Try.prog 25 (funEntL Sk25n true Fk25n) := fun_okL (fn := Go.Proofs.Try.f25) (c := bodyk25n) (by kernel_rfl) (by kernel_rfl) (by kernel_rfl) (by kernel_rfl) callsk25n
noncomputable def Ek25n : List (Nat × Ent) := (25, funEntL Sk25n true Fk25n) :: Ek23n
theorem Ek25n_ok : EntsOk Go.Proofs.Try.prog (ofL Ek25n) := .cons entk25n Ek23n_ok

/-! ### barbican/barbicanlaw03.KecNil -/
noncomputable def bodyk7 : Code := (Go.Proofs.Try.f7.body).getD .skip
abbrev Sk7 : FL := ⟨⟨[], [.env 0 (.c (.fz (.int .u8))), .env 1 (.c (.int .i64))], []⟩, 2, [(.ret, ⟨[], [.env 0 (.c (.bool))], []⟩)], [.tmp 4], false⟩
noncomputable def ck7 : Ctx Go.Proofs.Try.prog := ⟨ktab, ofL Ek25n, ktabOk, Ek25n_ok, kdep, kord⟩
noncomputable def Fk7 : (List Int) × Int → Option ((Bool))
  | (a0, a1) =>
    (Fk8 ()).bind fun y1 =>
      (Fk13n a1).bind fun (y2, y3) =>
        if y1 = true then
          if ((y2.length : Int) == 0) = true then
            if (y3 == 1) = true then
              (Fk12n a0).bind fun y4 =>
                if (y4 == 1) = true then
                  (Fk23n ()).bind fun y5 =>
                    if (y5 == 0) = true then
                      (Fk25n ()).bind fun _ =>
                        some true
                    else
                      some false
                else
                  some false
            else
              some false
          else
            some false
        else
          some false

noncomputable def annk7 : Ann := .none
theorem eqk7 : ∀ x : Sk7.inT, exec ktab (ofL Ek25n) 42 bodyk7 annk7 (finL ktab Sk7) (Sk7.inp.enc x) = Fk7 x := by
  rintro ⟨a0, a1⟩
  kernel_rfl
theorem callsk7 : CallsL Go.Proofs.Try.prog 7 Sk7 Fk7 := by
  refine fun_callsL (fn := Go.Proofs.Try.f7) (c := bodyk7) (ann := annk7) ck7 (by kernel_rfl) (by kernel_rfl) (by kernel_rfl) (by kernel_rfl) (by kernel_rfl) (annOk_of_cuts ?_) eqk7
  intro x hx
  exact absurd hx (by show x ∉ ([] : List (List Nat × LEnt)); simp)

theorem entk7 : EntOk Go.Proofs.Try.prog 7 (funEntL Sk7 true Fk7) := fun_okL (fn := Go.Proofs.Try.f7) (c := bodyk7) (by kernel_rfl) (by kernel_rfl) (by kernel_rfl) (by kernel_rfl) callsk7
noncomputable def Ek7 : List (Nat × Ent) := (7, funEntL Sk7 true Fk7) :: Ek25n
theorem Ek7_ok : EntsOk Go.Proofs.Try.prog (ofL Ek7) := .cons entk7 Ek25n_ok
end Go.Abs
