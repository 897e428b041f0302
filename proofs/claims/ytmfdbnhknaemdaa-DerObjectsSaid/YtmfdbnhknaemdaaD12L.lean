import Derived.Test.YtmfdbnhknaemdaaAbsDef3L
import Derived.Test.YtmfdbnhknaemdaaChecked
import Derived.KernelRfl
set_option linter.unusedVariables false
set_option linter.unusedSimpArgs false
set_option maxRecDepth 100000
namespace Go.Abs
def dtab : Tab := [
  (3, ⟨.int .i64, 1, 8, [.int .i64 0]⟩),
  (4, ⟨.bool, 1, 1, [.bool false]⟩),
  (5, ⟨.int .u8, 1, 1, [.int .u8 0]⟩),
  (22, ⟨.slice 5, 1, 24, [.val (.slice none 0 0)]⟩),
  (23, ⟨.slice 25, 1, 24, [.val (.slice none 0 0)]⟩),
  (25, ⟨.struct [(5, 0), (22, 1), (23, 2)], 3, 56, [.int .u8 0, .val (.slice none 0 0), .val (.slice none 0 0)]⟩),
  (26, ⟨.int .i64, 1, 8, [.int .i64 0]⟩),
  (42, ⟨.int .u64, 1, 8, [.int .u64 0]⟩),
  (50, ⟨.slice 42, 1, 24, [.val (.slice none 0 0)]⟩),
  (62, ⟨.struct [(22, 0)], 1, 24, [.val (.slice none 0 0)]⟩),
  (79, ⟨.struct [(26, 0)], 1, 8, [.int .i64 0]⟩)]
theorem dtabOk : TabOk Go.Proofs.Try.prog dtab := tabChk_ok (by kernel_rfl)
theorem ddep : 4 ≤ (Go.Proofs.Try.prog).depth := by
  have : Nat.ble 4 ((Go.Proofs.Try.prog).depth) = true := by kernel_rfl
  exact Nat.le_of_ble_eq_true this
theorem dord : (Go.Proofs.Try.prog).follows .mixedOrders = true := by kernel_rfl
noncomputable def dE0 : List (Nat × Ent) := []
theorem dE0_ok : EntsOk Go.Proofs.Try.prog (ofL dE0) := .nil _

/-! ### barbican/barbicanlaw12.count -/
noncomputable def bodyd42 : Code := (Go.Proofs.Try.f42.body).getD .skip
abbrev Sd42 : FL := ⟨⟨[], [.env 0 (.dat .item), .env 1 (.c (.int .i64))], []⟩, 2, [(.ret, ⟨[], [.env 0 (.c (.int .i64))], []⟩)], [.tmp 4], false⟩
noncomputable def cd42 (G : Sd42.inT → Option Sd42.outT) (hG : CallsL Go.Proofs.Try.prog 42 Sd42 G) : Ctx Go.Proofs.Try.prog := ⟨dtab, ofL ((42, funEntL Sd42 true G) :: dE0), dtabOk, .cons (fun_okL (fn := Go.Proofs.Try.f42) (c := bodyd42) (by kernel_rfl) (by kernel_rfl) (by kernel_rfl) (by kernel_rfl) hG) dE0_ok, ddep, dord⟩
abbrev ld42_0 : Lay := ⟨[(2, .ptr 2 0 3)], [.env 1 (.c (.int .i64)), .env 5 (.c (.int .i64)), .env 6 (.c (.int .i64)), .reg 2 (.cells [.int .u8, .fz (.int .u8), .fz .item])], [(2, .env 2 0)]⟩
abbrev od42_0 : List (AExit × Lay) := [(.exit 0, ⟨[], [.env 5 (.c (.int .i64))], []⟩)]
noncomputable def stepd42_0 (G : Tree × Int → Option ((Int))) : Int × Int × Int × (Int × (List Int) × (List Tree)) → Option ((Int × Int × Int × (Int × (List Int) × (List Tree))) ⊕ ((Int)))
  | (t1, t5, t6, r2) =>
    if (decide (t6 < (r2.2.2.length : Int))) = true then
      if (decide (t5 ≤ t1)) = true then
        if (0 : Int) ≤ t6 ∧ t6 < (r2.2.2.length : Int) then
          (G ((Tree.node (r2.2.2.getD t6.toNat (DT.dflt .item)).tag (r2.2.2.getD t6.toNat (DT.dflt .item)).body (r2.2.2.getD t6.toNat (DT.dflt .item)).kids), (IntKind.i64.wrap (t1 - t5)))).bind fun y1 =>
            some (.inl (t1, (IntKind.i64.wrap (t5 + y1)), (IntKind.i64.wrap (t6 + 1)), (r2.1, r2.2.1, r2.2.2)))
        else none
      else
        some (.inr t5)
    else
      some (.inr t5)

noncomputable def annd42_0 (G : Tree × Int → Option ((Int))) : Ann := .none
noncomputable def Bd42 (G : Tree × Int → Option ((Int))) : Tree × Int → Option ((Int))
  | (a0, a1) =>
    (loopO (stepd42_0 G) (a1, (IntKind.i64.wrap (1 + (a0.body.length : Int))), 0, (a0.tag, a0.body, a0.kids))).bind fun z2 =>
      some z2

noncomputable def annd42 (G : Tree × Int → Option ((Int))) : Ann := (.seq .none (.seq .none (.seq (.seq .none (.seq (.cut (cutEnt ld42_0 od42_0 (loopO (stepd42_0 G)))) .none)) .none)))
theorem eqd42_0 (G : Sd42.inT → Option Sd42.outT) (hG : CallsL Go.Proofs.Try.prog 42 Sd42 G) : ∀ s : ld42_0.T, exec dtab (ofL ((42, funEntL Sd42 true G) :: dE0)) 35 (Code.at' [1, 1, 0, 1, 0, 0] bodyd42) (annd42_0 G) (fun e st => loopEnd (l := ld42_0) (outs := od42_0) e st) (ld42_0.enc s) = stepd42_0 G s := by
  rintro ⟨t1, t5, t6, r2⟩
  kernel_rfl
theorem okd42_0 (G : Sd42.inT → Option Sd42.outT) (hG : CallsL Go.Proofs.Try.prog 42 Sd42 G) : LOk Go.Proofs.Try.prog 35 (cutEnt ld42_0 od42_0 (loopO (stepd42_0 G))) (Code.at' [1, 1, 0, 1, 0] bodyd42) := by
  have e : Code.at' [1, 1, 0, 1, 0] bodyd42 = .loop (Code.at' [1, 1, 0, 1, 0, 0] bodyd42) := by kernel_rfl
  rw [e]
  refine loop_ok (cd42 G hG) 35 rfl rfl (annOk_of_cuts ?_) (eqd42_0 G hG)
  intro x hx
  exact absurd hx (by show x ∉ ([] : List (List Nat × LEnt)); simp)

theorem eqd42 (G : Sd42.inT → Option Sd42.outT) (hG : CallsL Go.Proofs.Try.prog 42 Sd42 G) : ∀ x : Sd42.inT, exec dtab (ofL ((42, funEntL Sd42 true G) :: dE0)) 35 bodyd42 (annd42 G) (finL dtab Sd42) (Sd42.inp.enc x) = Bd42 G x := by
  rintro ⟨a0, a1⟩
  kernel_rfl
theorem bcallsd42 (G : Sd42.inT → Option Sd42.outT) (hG : CallsL Go.Proofs.Try.prog 42 Sd42 G) : CallsL Go.Proofs.Try.prog 42 Sd42 (Bd42 G) := by
  refine fun_callsL (fn := Go.Proofs.Try.f42) (c := bodyd42) (ann := (annd42 G)) (cd42 G hG) (by kernel_rfl) (by kernel_rfl) (by kernel_rfl) (by kernel_rfl) (by kernel_rfl) (annOk_of_cuts ?_) (eqd42 G hG)
  have hc : Ann.cuts (annd42 G) = [([1, 1, 0, 1, 0], (cutEnt ld42_0 od42_0 (loopO (stepd42_0 G))))] := by kernel_rfl
  rw [hc]
  intro x hx
  simp only [List.mem_cons, List.not_mem_nil, or_false] at hx
  rcases hx with rfl
  · have e : Code.at' [1, 1, 0, 1, 0] bodyd42 = Code.at' [1, 1, 0, 1, 0] bodyd42 := by kernel_rfl
    rw [e]; exact okd42_0 G hG

noncomputable def FRd42 : Nat → Tree × Int → Option ((Int))
  | 0 => fun _ => none
  | k + 1 => Bd42 (FRd42 k)
theorem rcallsd42 : ∀ k, CallsL Go.Proofs.Try.prog 42 Sd42 (FRd42 k)
  | 0 => fun _ _ _ _ _ _ _ _ h => by cases h
  | k + 1 => bcallsd42 (FRd42 k) (rcallsd42 k)
noncomputable def Fd42 (x : Tree × Int) : Option ((Int)) := FRd42 (Tree.rank x.1 + 1) x
theorem callsd42 : CallsL Go.Proofs.Try.prog 42 Sd42 Fd42 := fun us x y w fp β h1 h2 h3 h4 => rcallsd42 _ us x y w fp β h1 h2 h3 h4
theorem entd42 : EntOk Go.Proofs.Try.prog 42 (funEntL Sd42 true Fd42) := fun_okL (fn := Go.Proofs.Try.f42) (c := bodyd42) (by kernel_rfl) (by kernel_rfl) (by kernel_rfl) (by kernel_rfl) callsd42
noncomputable def Ed42 : List (Nat × Ent) := (42, (funEntL Sd42 true Fd42)) :: dE0
theorem Ed42_ok : EntsOk Go.Proofs.Try.prog (ofL Ed42) := .cons entd42 dE0_ok

/-! ### barbican/barbicanlaw12.Great -/
noncomputable def bodyd16 : Code := (Go.Proofs.Try.f16.body).getD .skip
abbrev Sd16 : FL := ⟨⟨[], [.env 0 (.dat .item)], []⟩, 1, [(.ret, ⟨[], [.env 0 (.c (.bool))], []⟩)], [.tmp 2], false⟩
noncomputable def cd16 : Ctx Go.Proofs.Try.prog := ⟨dtab, ofL Ed42, dtabOk, Ed42_ok, ddep, dord⟩
noncomputable def Fd16 : Tree → Option ((Bool))
  | a0 =>
    (Fd42 ((Tree.node a0.tag a0.body a0.kids), 65536)).bind fun y1 =>
      some (decide (y1 > 65536))

noncomputable def annd16 : Ann := .none
theorem eqd16 : ∀ x : Sd16.inT, exec dtab (ofL Ed42) 6 bodyd16 annd16 (finL dtab Sd16) (Sd16.inp.enc x) = Fd16 x := by
  intro x
  kernel_rfl
theorem callsd16 : CallsL Go.Proofs.Try.prog 16 Sd16 Fd16 := by
  refine fun_callsL (fn := Go.Proofs.Try.f16) (c := bodyd16) (ann := annd16) cd16 (by kernel_rfl) (by kernel_rfl) (by kernel_rfl) (by kernel_rfl) (by kernel_rfl) (annOk_of_cuts ?_) eqd16
  intro x hx
  exact absurd hx (by show x ∉ ([] : List (List Nat × LEnt)); simp)

theorem entd16 : EntOk Go.Proofs.Try.prog 16 (funEntL Sd16 true Fd16) := fun_okL (fn := Go.Proofs.Try.f16) (c := bodyd16) (by kernel_rfl) (by kernel_rfl) (by kernel_rfl) (by kernel_rfl) callsd16
noncomputable def Ed16 : List (Nat × Ent) := (16, (funEntL Sd16 true Fd16)) :: Ed42
theorem Ed16_ok : EntsOk Go.Proofs.Try.prog (ofL Ed16) := .cons entd16 Ed42_ok

/-! ### barbican/der.refuse -/
abbrev Sd41 : FL := ⟨⟨[], [.env 0 (.c (.int .i64))], []⟩, 1, [(.panic 79 0, ⟨[], [], []⟩)], [], false⟩
noncomputable def Fd41 : Int → Option (Int × Unit) := fun x => some (x, ())
noncomputable def bodyd41 : Code := (Go.Proofs.Try.f41.body).getD .skip
noncomputable def opsd41 : Array Oper := opsOf bodyd41
theorem callsd41 : CallsL Go.Proofs.Try.prog 41 Sd41 Fd41 := by
  intro us x y w fp β hlen hdfs hF R
  match us, hlen with
  | [v], _ =>
  have hv : v = .int .i64 x := by
    have := R.env 0 _ rfl
    simp only [AVRel, CVRel] at this
    exact this
  subst hv
  cases hF
  refine calls_of_wp (fn := Go.Proofs.Try.f41) (c := bodyd41) (by kernel_rfl) (by kernel_rfl) ?_
  have hb : bodyd41 = .region 0 opsd41 false := by kernel_rfl
  rw [hb]
  refine wp_region ?_
  have hs : List.range opsd41.size = [0, 1, 2, 3] := by kernel_rfl
  rw [hs]
  refine wpOps_val (o := opAt opsd41 0) (v := .int .i64 x) (w' := w) (by kernel_rfl) (by kernel_rfl) (by kernel_rfl) ?_
  refine wpOps_val (o := opAt opsd41 1) (v := .agg #[.int .i64 x]) (w' := w) (by kernel_rfl) (by kernel_rfl) (by kernel_rfl) ?_
  refine wpOps_val (o := opAt opsd41 2) (v := .iface 79 (.agg #[.int .i64 x])) (w' := w) (by kernel_rfl) (by kernel_rfl) (by kernel_rfl) ?_
  refine wpOps_halt (o := opAt opsd41 3) (v := .iface 79 (.agg #[.int .i64 x])) (w' := w) (by kernel_rfl) (by kernel_rfl) (by kernel_rfl) ?_
  have hfp : fp = ⟨fp.anc, fp.hb, []⟩ := by cases fp; simp only at hdfs; subst hdfs; rfl
  have R2 : Rel Go.Proofs.Try.prog w fp 0 β { env := fun _ => none, heap := (Sd41.inp.enc x).heap } { tmps := #[], defers := [] } w := by
    rw [hfp]
    exact (hfp ▸ R).act rfl rfl (Nat.zero_le _) (fun t av ht => by cases ht)
  exact ⟨rfl, β, [], R2, rfl, fun h => absurd rfl (h 79 x)⟩
theorem entd41 : EntOk Go.Proofs.Try.prog 41 (funEntL Sd41 true Fd41) := fun_okL (fn := Go.Proofs.Try.f41) (c := bodyd41) (by kernel_rfl) (by kernel_rfl) (by kernel_rfl) (by kernel_rfl) callsd41

noncomputable def Ed41 : List (Nat × Ent) := (41, funEntL Sd41 true Fd41) :: Ed16
theorem Ed41_ok : EntsOk Go.Proofs.Try.prog (ofL Ed41) := .cons entd41 Ed16_ok

/-! ### (*barbican/der.reader).take -/
noncomputable def bodyd55 : Code := (Go.Proofs.Try.f55.body).getD .skip
abbrev Sd55 : FL := ⟨⟨[(0, .ptr 1000000 0 1)], [.reg 1000000 (.cells [.fz (.int .u8)])], [(1000000, .env 0 0)]⟩, 1, [(.panic 79 0, ⟨[], [], []⟩), (.ret, ⟨[], [.env 0 (.c (.int .u8)), .reg 1000000 (.cells [.fz (.int .u8)])], []⟩)], [.tmp 2], true⟩
noncomputable def cd55 : Ctx Go.Proofs.Try.prog := ⟨dtab, ofL Ed41, dtabOk, Ed41_ok, ddep, dord⟩
noncomputable def Fd55 : (List Int) → Option ((Int × (Unit)) ⊕ (Int × (List Int)))
  | io =>
    if ((io.length : Int) == 0) = true then
      (Fd41 122).bind fun (e1, _) =>
        some (.inl (e1, ()))
    else
      if (0 : Int) ≤ (0 : Int) ∧ (0 : Int) < (io.length : Int) then
        if (0 : Int) ≤ (1 : Int) ∧ (1 : Int) ≤ (io.length : Int) then
          some (.inr ((io.getD 0 0), (io.drop 1)))
        else none
      else none

noncomputable def annd55 : Ann := .none
theorem eqd55 : ∀ x : Sd55.inT, exec dtab (ofL Ed41) 26 bodyd55 annd55 (finL dtab Sd55) (Sd55.inp.enc x) = Fd55 x := by
  intro x
  kernel_rfl
theorem callsd55 : CallsL Go.Proofs.Try.prog 55 Sd55 Fd55 := by
  refine fun_callsL (fn := Go.Proofs.Try.f55) (c := bodyd55) (ann := annd55) cd55 (by kernel_rfl) (by kernel_rfl) (by kernel_rfl) (by kernel_rfl) (by kernel_rfl) (annOk_of_cuts ?_) eqd55
  intro x hx
  exact absurd hx (by show x ∉ ([] : List (List Nat × LEnt)); simp)

theorem entd55 : EntOk Go.Proofs.Try.prog 55 (funEntL Sd55 true Fd55) := fun_okL (fn := Go.Proofs.Try.f55) (c := bodyd55) (by kernel_rfl) (by kernel_rfl) (by kernel_rfl) (by kernel_rfl) callsd55
noncomputable def Ed55 : List (Nat × Ent) := (55, (funEntL Sd55 true Fd55)) :: Ed41
theorem Ed55_ok : EntsOk Go.Proofs.Try.prog (ofL Ed55) := .cons entd55 Ed41_ok

/-! ### (*barbican/der.reader).cut -/
noncomputable def bodyd56 : Code := (Go.Proofs.Try.f56.body).getD .skip
abbrev Sd56 : FL := ⟨⟨[(0, .ptr 1000000 0 1)], [.reg 1000000 (.cells [.fz (.int .u8)]), .env 1 (.c (.int .i64))], [(1000000, .env 0 0)]⟩, 2, [(.panic 79 0, ⟨[], [], []⟩), (.ret, ⟨[], [.env 0 (.c (.fz (.int .u8))), .reg 1000000 (.cells [.fz (.int .u8)])], []⟩)], [.tmp 4], true⟩
noncomputable def cd56 : Ctx Go.Proofs.Try.prog := ⟨dtab, ofL Ed55, dtabOk, Ed55_ok, ddep, dord⟩
noncomputable def Fd56 : (List Int) × Int → Option ((Int × (Unit)) ⊕ ((List Int) × (List Int)))
  | (io, a1) =>
    if (decide (a1 > (io.length : Int))) = true then
      (Fd41 122).bind fun (e1, _) =>
        some (.inl (e1, ()))
    else
      if (0 : Int) ≤ a1 ∧ a1 ≤ (io.length : Int) then
        if (0 : Int) ≤ a1 ∧ a1 ≤ (io.length : Int) then
          some (.inr ((io.take a1.toNat), (io.drop a1.toNat)))
        else none
      else none

noncomputable def annd56 : Ann := .none
theorem eqd56 : ∀ x : Sd56.inT, exec dtab (ofL Ed55) 30 bodyd56 annd56 (finL dtab Sd56) (Sd56.inp.enc x) = Fd56 x := by
  rintro ⟨io, a1⟩
  kernel_rfl
theorem callsd56 : CallsL Go.Proofs.Try.prog 56 Sd56 Fd56 := by
  refine fun_callsL (fn := Go.Proofs.Try.f56) (c := bodyd56) (ann := annd56) cd56 (by kernel_rfl) (by kernel_rfl) (by kernel_rfl) (by kernel_rfl) (by kernel_rfl) (annOk_of_cuts ?_) eqd56
  intro x hx
  exact absurd hx (by show x ∉ ([] : List (List Nat × LEnt)); simp)

theorem entd56 : EntOk Go.Proofs.Try.prog 56 (funEntL Sd56 true Fd56) := fun_okL (fn := Go.Proofs.Try.f56) (c := bodyd56) (by kernel_rfl) (by kernel_rfl) (by kernel_rfl) (by kernel_rfl) callsd56
noncomputable def Ed56 : List (Nat × Ent) := (56, (funEntL Sd56 true Fd56)) :: Ed55
theorem Ed56_ok : EntsOk Go.Proofs.Try.prog (ofL Ed56) := .cons entd56 Ed55_ok

/-! ### (*barbican/der.reader).length -/
noncomputable def bodyd57 : Code := (Go.Proofs.Try.f57.body).getD .skip
abbrev Sd57 : FL := ⟨⟨[(0, .ptr 1000000 0 1)], [.reg 1000000 (.cells [.fz (.int .u8)])], [(1000000, .env 0 0)]⟩, 1, [(.panic 79 0, ⟨[], [], []⟩), (.ret, ⟨[], [.env 0 (.c (.int .i64)), .reg 1000000 (.cells [.fz (.int .u8)])], []⟩)], [.tmp 2], true⟩
noncomputable def cd57 : Ctx Go.Proofs.Try.prog := ⟨dtab, ofL Ed56, dtabOk, Ed56_ok, ddep, dord⟩
abbrev ld57_0 : Lay := ⟨[], [.env 4 (.c (.int .i64)), .env 5 (.c (.fz (.int .u8))), .env 26 (.c (.fz (.int .u8))), .env 27 (.c (.int .i64)), .env 28 (.c (.int .i64)), .reg 1000000 (.cells [.fz (.int .u8)])], []⟩
abbrev od57_0 : List (AExit × Lay) := [(.exit 0, ⟨[], [.env 4 (.c (.int .i64)), .env 5 (.c (.fz (.int .u8))), .reg 1000000 (.cells [.fz (.int .u8)])], []⟩)]
noncomputable def stepd57_0 : Int × (List Int) × (List Int) × Int × Int × (List Int) → Option ((Int × (List Int) × (List Int) × Int × Int × (List Int)) ⊕ ((Int × (List Int) × (List Int))))
  | (t4, t5, t26, t27, t28, r1000000) =>
    if (decide (t28 < t27)) = true then
      if (0 : Int) ≤ t28 ∧ t28 < (t26.length : Int) then
        let x8 : Int := (bitsOr .i64 (shlI .i64 t4 8) (IntKind.i64.wrap (t26.getD t28.toNat 0)))
        some (.inl (x8, t5, t26, t27, (IntKind.i64.wrap (t28 + 1)), r1000000))
      else none
    else
      some (.inr (t4, t5, r1000000))

noncomputable def annd57_0 : Ann := .none
noncomputable def Fd57 : (List Int) → Option ((Int × (Unit)) ⊕ (Int × (List Int)))
  | io =>
    (Fd55 io).bind fun
      | (.inl (e1, _)) =>
        some (.inl (e1, ()))
      | (.inr (y2, y3)) =>
        if (decide (y2 < 128)) = true then
          some (.inr ((IntKind.i64.wrap y2), y3))
        else
          if (y2 == 128) = false then
            if (decide (y2 > 131)) = true then
              (Fd41 124).bind fun (e4, _) =>
                some (.inl (e4, ()))
            else
              (Fd56 (y3, (IntKind.i64.wrap (bitsAnd .u8 y2 127)))).bind fun
                | (.inl (e5, _)) =>
                  some (.inl (e5, ()))
                | (.inr (y6, y7)) =>
                  (loopO stepd57_0 (0, y6, y6, (y6.length : Int), 0, y7)).bind fun (z9, z10, z11) =>
                    if (0 : Int) ≤ (0 : Int) ∧ (0 : Int) < (z10.length : Int) then
                      if ((z10.getD 0 0) == 0) = false then
                        if (decide (z9 < 128)) = true then
                          (Fd41 124).bind fun (e12, _) =>
                            some (.inl (e12, ()))
                        else
                          some (.inr (z9, z11))
                      else
                        (Fd41 124).bind fun (e13, _) =>
                          some (.inl (e13, ()))
                    else none
          else
            (Fd41 124).bind fun (e14, _) =>
              some (.inl (e14, ()))

noncomputable def annd57 : Ann := (.seq .none (.seq .none (.seq .none (.seq .none (.seq .none (.seq .none (.seq (.seq .none (.seq (.cut (cutEnt ld57_0 od57_0 (loopO (stepd57_0)))) .none)) .none)))))))
theorem eqd57_0 : ∀ s : ld57_0.T, exec dtab (ofL Ed56) 48 (Code.at' [1, 1, 1, 1, 1, 1, 0, 1, 0, 0] bodyd57) annd57_0 (fun e st => loopEnd (l := ld57_0) (outs := od57_0) e st) (ld57_0.enc s) = stepd57_0 s := by
  rintro ⟨t4, t5, t26, t27, t28, r1000000⟩
  kernel_rfl
theorem okd57_0 : LOk Go.Proofs.Try.prog 48 (cutEnt ld57_0 od57_0 (loopO stepd57_0)) (Code.at' [1, 1, 1, 1, 1, 1, 0, 1, 0] bodyd57) := by
  have e : Code.at' [1, 1, 1, 1, 1, 1, 0, 1, 0] bodyd57 = .loop (Code.at' [1, 1, 1, 1, 1, 1, 0, 1, 0, 0] bodyd57) := by kernel_rfl
  rw [e]
  refine loop_ok cd57 48 rfl rfl (annOk_of_cuts ?_) eqd57_0
  intro x hx
  exact absurd hx (by show x ∉ ([] : List (List Nat × LEnt)); simp)

theorem eqd57 : ∀ x : Sd57.inT, exec dtab (ofL Ed56) 48 bodyd57 annd57 (finL dtab Sd57) (Sd57.inp.enc x) = Fd57 x := by
  intro x
  kernel_rfl
theorem callsd57 : CallsL Go.Proofs.Try.prog 57 Sd57 Fd57 := by
  refine fun_callsL (fn := Go.Proofs.Try.f57) (c := bodyd57) (ann := annd57) cd57 (by kernel_rfl) (by kernel_rfl) (by kernel_rfl) (by kernel_rfl) (by kernel_rfl) (annOk_of_cuts ?_) eqd57
  have hc : Ann.cuts annd57 = [([1, 1, 1, 1, 1, 1, 0, 1, 0], (cutEnt ld57_0 od57_0 (loopO (stepd57_0))))] := by kernel_rfl
  rw [hc]
  intro x hx
  simp only [List.mem_cons, List.not_mem_nil, or_false] at hx
  rcases hx with rfl
  · have e : Code.at' [1, 1, 1, 1, 1, 1, 0, 1, 0] bodyd57 = Code.at' [1, 1, 1, 1, 1, 1, 0, 1, 0] bodyd57 := by kernel_rfl
    rw [e]; exact okd57_0

theorem entd57 : EntOk Go.Proofs.Try.prog 57 (funEntL Sd57 true Fd57) := fun_okL (fn := Go.Proofs.Try.f57) (c := bodyd57) (by kernel_rfl) (by kernel_rfl) (by kernel_rfl) (by kernel_rfl) callsd57
noncomputable def Ed57 : List (Nat × Ent) := (57, (funEntL Sd57 true Fd57)) :: Ed56
theorem Ed57_ok : EntsOk Go.Proofs.Try.prog (ofL Ed57) := .cons entd57 Ed56_ok

/-! ### barbican/der.built -/
noncomputable def bodyd58 : Code := (Go.Proofs.Try.f58.body).getD .skip
abbrev Sd58 : FL := ⟨⟨[], [.env 0 (.c (.int .u8))], []⟩, 1, [(.ret, ⟨[], [.env 0 (.c (.bool))], []⟩)], [.tmp 2], false⟩
noncomputable def cd58 : Ctx Go.Proofs.Try.prog := ⟨dtab, ofL Ed57, dtabOk, Ed57_ok, ddep, dord⟩
noncomputable def Fd58 : Int → Option ((Bool))
  | a0 =>
    some ((bitsAnd .u8 a0 32) != 0)

noncomputable def annd58 : Ann := .none
theorem eqd58 : ∀ x : Sd58.inT, exec dtab (ofL Ed57) 6 bodyd58 annd58 (finL dtab Sd58) (Sd58.inp.enc x) = Fd58 x := by
  intro x
  kernel_rfl
theorem callsd58 : CallsL Go.Proofs.Try.prog 58 Sd58 Fd58 := by
  refine fun_callsL (fn := Go.Proofs.Try.f58) (c := bodyd58) (ann := annd58) cd58 (by kernel_rfl) (by kernel_rfl) (by kernel_rfl) (by kernel_rfl) (by kernel_rfl) (annOk_of_cuts ?_) eqd58
  intro x hx
  exact absurd hx (by show x ∉ ([] : List (List Nat × LEnt)); simp)

theorem entd58 : EntOk Go.Proofs.Try.prog 58 (funEntL Sd58 true Fd58) := fun_okL (fn := Go.Proofs.Try.f58) (c := bodyd58) (by kernel_rfl) (by kernel_rfl) (by kernel_rfl) (by kernel_rfl) callsd58
noncomputable def Ed58 : List (Nat × Ent) := (58, (funEntL Sd58 true Fd58)) :: Ed57
theorem Ed58_ok : EntsOk Go.Proofs.Try.prog (ofL Ed58) := .cons entd58 Ed57_ok

/-! ### slices.Clone[[]byte,byte] -/
abbrev Sd44 : FL := ⟨⟨[], [.env 0 (.c (.fz (.int .u8)))], []⟩, 1, [(.ret, ⟨[(0, .full 1)], [.reg 1 (.row 5 .u8)], [(1, .env 0 0)]⟩)], [.tmp 2], false⟩
noncomputable def Fd44 : List Int → Option (List Int) := fun (x : List Int) => if okBytes x.length 1 then some x else none
noncomputable def bodyd44 : Code := (Go.Proofs.Try.f44.body).getD .skip
noncomputable def cd44 : Ctx Go.Proofs.Try.prog := ⟨dtab, ofL dE0, dtabOk, dE0_ok, ddep, dord⟩
noncomputable def oad44 : Array Oper := opsOf (Code.at' [0] bodyd44)
noncomputable def obd44 : Array Oper := opsOf (Code.at' [1, 0, 0] bodyd44)
theorem atd44 : bodyd44 = .seq (.region 0 oad44 false) (.seq (.seq (.region 1 obd44 false) (.cond (.tmp 4) (Code.at' [1, 0, 1, 0] bodyd44) .skip)) (Code.at' [1, 1] bodyd44)) := by kernel_rfl
theorem exad44 (x : List Int) : exec dtab (ofL dE0) 8 (Code.at' [1, 0, 1, 0] bodyd44) .none (finR dtab Sd44) (Sd44.inp.enc x) = some [] := by kernel_rfl
theorem exbd44 (x : List Int) : exec dtab (ofL dE0) 8 (Code.at' [1, 1] bodyd44) .none (finL dtab Sd44) (Sd44.inp.enc x) = if okBytes ((List.replicate 0 (0 : Int)).length + x.length) 1 then some ((List.replicate 0 (0 : Int)) ++ x) else none := by kernel_rfl

theorem callsd44 : CallsL Go.Proofs.Try.prog 44 Sd44 Fd44 := by
  intro us x y w fp β hlen hdfs hF R
  obtain ⟨anc, hb, dfs⟩ := fp
  have hdfs : dfs = [] := hdfs
  subst hdfs
  match us, hlen with
  | [v], _ =>
  have hok : okBytes (List.length (α := Int) x) 1 ∧ y = x := by
    unfold Fd44 at hF
    split at hF
    · rename_i h; exact ⟨h, (Option.some.inj hF).symm⟩
    · cases hF
  obtain ⟨hok, rfl⟩ := hok
  have h0 := R.env 0 _ rfl
  simp only [AVRel, CVRel] at h0
  have h1 : ∃ A cap, v = .slice A (List.length (α := Int) y) cap ∧ (A = none → y = [] ∧ cap = 0) := by
    cases h0 with
    | fz _ _ _ A c hn hc h0 hat => exact ⟨A, c, rfl, h0⟩
  obtain ⟨A, cap, rfl, hA⟩ := h1
  refine calls_of_wp (fn := Go.Proofs.Try.f44) (c := bodyd44) (by kernel_rfl) (by kernel_rfl) ?_
  have n8 : Go.Proofs.Try.f44.ntmps = 8 := by kernel_rfl
  have d0 : (opAt oad44 0).dst = some 2 := by kernel_rfl
  have d1 : (opAt obd44 0).dst = some 3 := by kernel_rfl
  have d2 : (opAt obd44 1).dst = some 4 := by kernel_rfl
  rw [atd44, n8]
  refine wp_seq (wp_region ?_)
  have r0 : List.range oad44.size = [0] := by kernel_rfl
  rw [r0]
  refine wpOps_val (o := opAt oad44 0) (v := .slice none 0 0) (w' := w) (by kernel_rfl) (by kernel_rfl) (by kernel_rfl) ?_
  refine wp_seq (wp_seq (wp_region ?_))
  have r1 : List.range obd44.size = [0, 1] := by kernel_rfl
  rw [r1]
  refine wpOps_val (o := opAt obd44 0) (v := .slice A (List.length (α := Int) y) cap) (w' := w) (by kernel_rfl) (by kernel_rfl) (by kernel_rfl) ?_
  cases A with
  | none =>
    obtain ⟨rfl, rfl⟩ := hA rfl
    refine wpOps_val (o := opAt obd44 1) (v := .bool true) (w' := w) (by kernel_rfl) (by kernel_rfl) (by kernel_rfl) ?_
    rw [d0, d1, d2]
    refine wp_cond_true rfl ?_
    refine wp_mono (rest_callsR cd44 (fn := Go.Proofs.Try.f44) (S := Sd44) (c := Code.at' [1, 0, 1, 0] bodyd44) (ann := .none) (y := []) (w := w) (fp := ⟨anc, hb, []⟩) (β := β) (by kernel_rfl) (by kernel_rfl) (by kernel_rfl) (annOk_of_cuts (fun x hx => absurd hx (by show x ∉ ([] : List (List Nat × LEnt)); simp))) rfl (exad44 []) ?_) ?_
    · rw [n8]
      refine R.act rfl rfl (by decide) (fun t av ht => ?_)
      have := R.env t av ht
      cases t with
      | zero => exact this
      | succ t => cases ht
    · intro e a w' h
      cases e <;> first | exact h | exact h.elim
  | some a' =>
    refine wpOps_val (o := opAt obd44 1) (v := .bool false) (w' := w) (by kernel_rfl) (by kernel_rfl) (by kernel_rfl) ?_
    rw [d0, d1, d2]
    refine wp_cond_false rfl (wp_skip ?_)
    have ex := exbd44 y
    rw [if_pos (by simpa using hok)] at ex
    have e1 : List.replicate 0 (0 : Int) ++ y = y := rfl
    rw [e1] at ex
    refine wp_mono (rest_callsL cd44 (fn := Go.Proofs.Try.f44) (S := Sd44) (c := Code.at' [1, 1] bodyd44) (ann := .none) (y := y) (w := w) (fp := ⟨anc, hb, []⟩) (β := β) (by kernel_rfl) (by kernel_rfl) (by kernel_rfl) (annOk_of_cuts (fun x hx => absurd hx (by show x ∉ ([] : List (List Nat × LEnt)); simp))) rfl ex ?_) ?_
    · rw [n8]
      refine R.act rfl (by simp [Act.put]) (by decide) (fun t av ht => ?_)
      have := R.env t av ht
      cases t with
      | zero =>
        generalize hq : (Value.slice (some a') (List.length (α := Int) y) cap) = q at this ⊢
        simpa [Act.put] using this
      | succ t => cases ht
    · intro e a w' h
      exact h
theorem entd44 : EntOk Go.Proofs.Try.prog 44 (funEntL Sd44 true Fd44) := fun_okL (fn := Go.Proofs.Try.f44) (c := bodyd44) (by kernel_rfl) (by kernel_rfl) (by kernel_rfl) (by kernel_rfl) callsd44

noncomputable def Ed44 : List (Nat × Ent) := (44, funEntL Sd44 true Fd44) :: Ed58
theorem Ed44_ok : EntsOk Go.Proofs.Try.prog (ofL Ed44) := .cons entd44 Ed58_ok

/-! ### (*barbican/der.reader).item -/
noncomputable def bodyd40 : Code := (Go.Proofs.Try.f40.body).getD .skip
abbrev Sd40 : FL := ⟨⟨[(0, .ptr 1000000 0 1)], [.reg 1000000 (.cells [.fz (.int .u8)]), .env 1 (.c (.int .i64))], [(1000000, .env 0 0)]⟩, 2, [(.ret, ⟨[], [.env 0 (.dat .item), .reg 1000000 (.cells [.fz (.int .u8)])], []⟩), (.panic 79 0, ⟨[], [], []⟩)], [.cell 4 25], true⟩
noncomputable def cd40 (G : Sd40.inT → Option Sd40.outT) (hG : CallsL Go.Proofs.Try.prog 40 Sd40 G) : Ctx Go.Proofs.Try.prog := ⟨dtab, ofL ((40, funEntL Sd40 true G) :: Ed44), dtabOk, .cons (fun_okL (fn := Go.Proofs.Try.f40) (c := bodyd40) (by kernel_rfl) (by kernel_rfl) (by kernel_rfl) (by kernel_rfl) hG) Ed44_ok, ddep, dord⟩
abbrev ld40_0 : Lay := ⟨[(4, .ptr 4 0 3), (5, .ptr 5 0 3), (7, .ptr 33 0 1)], [.env 1 (.c (.int .i64)), .reg 4 (.cells [.int .u8, .nils, .nils]), .reg 5 (.cells [.int .u8, .nils, .full 600322]), .reg 600322 (.rowd 25 .item), .reg 33 (.cells [.fz (.int .u8)]), .reg 1000000 (.cells [.fz (.int .u8)])], [(4, .env 4 0), (5, .env 5 0), (33, .env 7 0), (600322, .reg 5 2)]⟩
abbrev od40_0 : List (AExit × Lay) := [(.panic 79 0, ⟨[], [], []⟩), (.exit 0, ⟨[(4, .ptr 4 0 3), (5, .ptr 5 0 3)], [.reg 4 (.cells [.int .u8, .nils, .nils]), .reg 5 (.cells [.int .u8, .nils, .full 600322]), .reg 600322 (.rowd 25 .item), .reg 1000000 (.cells [.fz (.int .u8)])], [(4, .env 4 0), (5, .env 5 0), (600322, .reg 5 2)]⟩)]
noncomputable def stepd40_0 (G : (List Int) × Int → Option ((Tree × (List Int)) ⊕ (Int × (Unit)))) : Int × (Int × Unit × Unit) × (Int × Unit × Unit) × List Tree × (List Int) × (List Int) → Option ((Int × (Int × Unit × Unit) × (Int × Unit × Unit) × List Tree × (List Int) × (List Int)) ⊕ ((Int × (Unit)) ⊕ ((Int × Unit × Unit) × (Int × Unit × Unit) × List Tree × (List Int))))
  | (t1, r4, r5, r600322, r33, r1000000) =>
    if (decide ((r33.length : Int) > 0)) = true then
      (G (r33, (IntKind.i64.wrap (t1 + 1)))).bind fun
        | (.inl (y14, y15)) =>
          if okBytes (r600322.length + ([(Tree.node y14.tag y14.body y14.kids)] : List Tree).length) 56 then
            let f16 : List Tree := (r600322 ++ ([(Tree.node y14.tag y14.body y14.kids)] : List Tree))
            some (.inl (t1, (r4.1, (), ()), (r5.1, (), ()), f16, y15, r1000000))
          else none
        | (.inr (e17, _)) =>
          some (.inr (.inl (e17, ())))
    else
      some (.inr (.inr ((r4.1, (), ()), (r5.1, (), ()), r600322, r1000000)))

noncomputable def annd40_0 (G : (List Int) × Int → Option ((Tree × (List Int)) ⊕ (Int × (Unit)))) : Ann := .none
noncomputable def Bd40 (G : (List Int) × Int → Option ((Tree × (List Int)) ⊕ (Int × (Unit)))) : (List Int) × Int → Option ((Tree × (List Int)) ⊕ (Int × (Unit)))
  | (io, a1) =>
    if (decide (a1 > 16)) = true then
      (Fd41 125).bind fun (e1, _) =>
        some (.inr (e1, ()))
    else
      (Fd55 io).bind fun
        | (.inl (e2, _)) =>
          some (.inr (e2, ()))
        | (.inr (y3, y4)) =>
          if ((bitsAnd .u8 y3 31) == 31) = true then
            (Fd41 123).bind fun (e5, _) =>
              some (.inr (e5, ()))
          else
            (Fd57 y4).bind fun
              | (.inl (e6, _)) =>
                some (.inr (e6, ()))
              | (.inr (y7, y8)) =>
                (Fd56 (y8, y7)).bind fun
                  | (.inl (e9, _)) =>
                    some (.inr (e9, ()))
                  | (.inr (y10, y11)) =>
                    (Fd58 y3).bind fun y12 =>
                      if (!y12) = true then
                        (Fd44 y10).bind fun y13 =>
                          some (.inl ((Tree.node y3 y13 ([] : List Tree)), y11))
                      else
                        (loopO (stepd40_0 G) (a1, (0, (), ()), (y3, (), ()), ([] : List Tree), y10, y11)).bind fun
                          | (.inl (e18, _)) =>
                            some (.inr (e18, ()))
                          | (.inr (z19, z20, z21, z22)) =>
                            some (.inl ((Tree.node z20.1 ([] : List Int) z21), z22))

noncomputable def annd40 (G : (List Int) × Int → Option ((Tree × (List Int)) ⊕ (Int × (Unit)))) : Ann := (.seq .none (.seq .none (.seq .none (.seq .none (.seq .none (.seq .none (.seq (.seq .none (.seq (.cut (cutEnt ld40_0 od40_0 (loopO (stepd40_0 G)))) .none)) .none)))))))
theorem eqd40_0 (G : Sd40.inT → Option Sd40.outT) (hG : CallsL Go.Proofs.Try.prog 40 Sd40 G) : ∀ s : ld40_0.T, exec dtab (ofL ((40, funEntL Sd40 true G) :: Ed44)) 50 (Code.at' [1, 1, 1, 1, 1, 1, 0, 1, 0, 0] bodyd40) (annd40_0 G) (fun e st => loopEnd (l := ld40_0) (outs := od40_0) e st) (ld40_0.enc s) = stepd40_0 G s := by
  rintro ⟨t1, r4, r5, r600322, r33, r1000000⟩
  kernel_rfl
theorem okd40_0 (G : Sd40.inT → Option Sd40.outT) (hG : CallsL Go.Proofs.Try.prog 40 Sd40 G) : LOk Go.Proofs.Try.prog 50 (cutEnt ld40_0 od40_0 (loopO (stepd40_0 G))) (Code.at' [1, 1, 1, 1, 1, 1, 0, 1, 0] bodyd40) := by
  have e : Code.at' [1, 1, 1, 1, 1, 1, 0, 1, 0] bodyd40 = .loop (Code.at' [1, 1, 1, 1, 1, 1, 0, 1, 0, 0] bodyd40) := by kernel_rfl
  rw [e]
  refine loop_ok (cd40 G hG) 50 rfl rfl (annOk_of_cuts ?_) (eqd40_0 G hG)
  intro x hx
  exact absurd hx (by show x ∉ ([] : List (List Nat × LEnt)); simp)

theorem eqd40 (G : Sd40.inT → Option Sd40.outT) (hG : CallsL Go.Proofs.Try.prog 40 Sd40 G) : ∀ x : Sd40.inT, exec dtab (ofL ((40, funEntL Sd40 true G) :: Ed44)) 50 bodyd40 (annd40 G) (finL dtab Sd40) (Sd40.inp.enc x) = Bd40 G x := by
  rintro ⟨io, a1⟩
  kernel_rfl
theorem bcallsd40 (G : Sd40.inT → Option Sd40.outT) (hG : CallsL Go.Proofs.Try.prog 40 Sd40 G) : CallsL Go.Proofs.Try.prog 40 Sd40 (Bd40 G) := by
  refine fun_callsL (fn := Go.Proofs.Try.f40) (c := bodyd40) (ann := (annd40 G)) (cd40 G hG) (by kernel_rfl) (by kernel_rfl) (by kernel_rfl) (by kernel_rfl) (by kernel_rfl) (annOk_of_cuts ?_) (eqd40 G hG)
  have hc : Ann.cuts (annd40 G) = [([1, 1, 1, 1, 1, 1, 0, 1, 0], (cutEnt ld40_0 od40_0 (loopO (stepd40_0 G))))] := by kernel_rfl
  rw [hc]
  intro x hx
  simp only [List.mem_cons, List.not_mem_nil, or_false] at hx
  rcases hx with rfl
  · have e : Code.at' [1, 1, 1, 1, 1, 1, 0, 1, 0] bodyd40 = Code.at' [1, 1, 1, 1, 1, 1, 0, 1, 0] bodyd40 := by kernel_rfl
    rw [e]; exact okd40_0 G hG

noncomputable def FRd40 : Nat → (List Int) × Int → Option ((Tree × (List Int)) ⊕ (Int × (Unit)))
  | 0 => fun _ => none
  | k + 1 => Bd40 (FRd40 k)
theorem rcallsd40 : ∀ k, CallsL Go.Proofs.Try.prog 40 Sd40 (FRd40 k)
  | 0 => fun _ _ _ _ _ _ _ _ h => by cases h
  | k + 1 => bcallsd40 (FRd40 k) (rcallsd40 k)
noncomputable def Fd40 (x : (List Int) × Int) : Option ((Tree × (List Int)) ⊕ (Int × (Unit))) := FRd40 (20) x
theorem callsd40 : CallsL Go.Proofs.Try.prog 40 Sd40 Fd40 := fun us x y w fp β h1 h2 h3 h4 => rcallsd40 _ us x y w fp β h1 h2 h3 h4
theorem entd40 : EntOk Go.Proofs.Try.prog 40 (funEntL Sd40 true Fd40) := fun_okL (fn := Go.Proofs.Try.f40) (c := bodyd40) (by kernel_rfl) (by kernel_rfl) (by kernel_rfl) (by kernel_rfl) callsd40
noncomputable def Ed40 : List (Nat × Ent) := (40, (funEntL Sd40 true Fd40)) :: Ed44
theorem Ed40_ok : EntsOk Go.Proofs.Try.prog (ofL Ed40) := .cons entd40 Ed44_ok

/-! ### barbican/der.Decode -/
/-! ### der.caught, by hand -/
noncomputable def bodyd39 : Code := (Go.Proofs.Try.f39.body).getD .skip
noncomputable def oad39 : Array Oper := opsOf (Code.at' [0, 0] bodyd39)
noncomputable def obd39 : Array Oper := opsOf (Code.at' [1, 0] bodyd39)
theorem atd39 : bodyd39 = .seq (.seq (.region 0 oad39 false) (.cond (.tmp 7) .ret .skip)) (.seq (.region 1 obd39 false) (Code.at' [1, 1] bodyd39)) := by kernel_rfl
abbrev Sd39 : FL := ⟨⟨[(1, .ptr 1000000 0 1)], [.reg 1000000 (.cells [.int .i64])], [(1000000, .env 1 0)]⟩, 2, [(.ret, ⟨[], [.reg 1000000 (.cells [.int .i64])], []⟩)], [], false⟩
noncomputable def cd39 : Ctx Go.Proofs.Try.prog := ⟨dtab, ofL dE0, dtabOk, dE0_ok, ddep, dord⟩
noncomputable def std39 (n : Int) (x : Sd39.inT) : St := { env := upd (upd (Sd39.inp.enc x).env 11 (some (.agg [.int .i64 n]))) 12 (some (.c (.bool true))), heap := (Sd39.inp.enc x).heap }
noncomputable def Fd39 (n : Int) (x : Sd39.inT) : Option Sd39.outT := some n
theorem exd39 (n : Int) : ∀ x, execOps dtab (ofL dE0) 20 obd39 ((List.range' 5 3).map (opAt obd39)) (std39 n x) [] (fun st' _ => exec dtab (ofL dE0) 20 (Code.at' [1, 1] bodyd39) .none (finL dtab Sd39) st') (fun _ _ _ _ _ => none) = Fd39 n x := by
  intro x
  kernel_rfl
theorem nild39 (v : Value) (w : World) : Calls Go.Proofs.Try.prog 39 #[.nilIface, v] w fun e w' => e = .returned (.tuple #[]) ∧ w' = w := by
  refine calls_of_wp (fn := Go.Proofs.Try.f39) (c := bodyd39) (by kernel_rfl) (by kernel_rfl) ?_
  have n20 : Go.Proofs.Try.f39.ntmps = 20 := by kernel_rfl
  have d0 : (opAt oad39 0).dst = some 6 := by kernel_rfl
  have d1 : (opAt oad39 1).dst = some 7 := by kernel_rfl
  rw [atd39, n20]
  refine wp_seq (wp_seq (wp_region ?_))
  have r0 : List.range oad39.size = [0, 1] := by kernel_rfl
  rw [r0]
  refine wpOps_val (o := opAt oad39 0) (v := .nilIface) (w' := w) (by kernel_rfl) (by kernel_rfl) (by kernel_rfl) ?_
  refine wpOps_val (o := opAt oad39 1) (v := .bool true) (w' := w) (by kernel_rfl) (by kernel_rfl) (by kernel_rfl) ?_
  rw [d0, d1]
  refine wp_cond_true (by kernel_rfl) (wp_ret ?_)
  exact ⟨rfl, .tuple #[], by kernel_rfl, rfl, rfl⟩
theorem numd39 (n : Int) (pv : Value) (x : Sd39.inT) (y : Sd39.outT) (w : World) (fp : FP) (β : Nat → Value) (hF : Fd39 n x = some y) (hdfs : fp.dfs = []) (R : Rel Go.Proofs.Try.prog w fp 2 β (Sd39.inp.enc x) { tmps := #[.iface 79 (.agg #[.int .i64 n]), pv], defers := [] } w) :
    Calls Go.Proofs.Try.prog 39 #[.iface 79 (.agg #[.int .i64 n]), pv] w (EndL Go.Proofs.Try.prog Sd39 fp w y) := by
  refine calls_of_wp (fn := Go.Proofs.Try.f39) (c := bodyd39) (by kernel_rfl) (by kernel_rfl) ?_
  have n20 : Go.Proofs.Try.f39.ntmps = 20 := by kernel_rfl
  obtain ⟨anc, hb, dfs⟩ := fp
  have hdfs : dfs = [] := hdfs
  subst hdfs
  have d0 : (opAt oad39 0).dst = some 6 := by kernel_rfl
  have d1 : (opAt oad39 1).dst = some 7 := by kernel_rfl
  have e0 : (opAt obd39 0).dst = some 9 := by kernel_rfl
  have e1 : (opAt obd39 1).dst = some 10 := by kernel_rfl
  have e2 : (opAt obd39 2).dst = some 8 := by kernel_rfl
  have e3 : (opAt obd39 3).dst = some 11 := by kernel_rfl
  have e4 : (opAt obd39 4).dst = some 12 := by kernel_rfl
  rw [atd39, n20]
  refine wp_seq (wp_seq (wp_region ?_))
  have r0 : List.range oad39.size = [0, 1] := by kernel_rfl
  rw [r0]
  refine wpOps_val (o := opAt oad39 0) (v := .iface 79 (.agg #[.int .i64 n])) (w' := w) (by kernel_rfl) (by kernel_rfl) (by kernel_rfl) ?_
  refine wpOps_val (o := opAt oad39 1) (v := .bool false) (w' := w) (by kernel_rfl) (by kernel_rfl) (by kernel_rfl) ?_
  rw [d0, d1]
  refine wp_cond_false (by kernel_rfl) (wp_skip ?_)
  refine wp_seq (wp_region ?_)
  have r1 : List.range obd39.size = 0 :: 1 :: 2 :: 3 :: 4 :: (List.range' 5 3 ++ []) := by kernel_rfl
  rw [r1]
  refine wpOps_val (o := opAt obd39 0) (v := .iface 79 (.agg #[.int .i64 n])) (w' := w) (by kernel_rfl) (by kernel_rfl) (by kernel_rfl) ?_
  refine wpOps_val (o := opAt obd39 1) (v := .tuple #[.agg #[.int .i64 n], .bool true]) (w' := w) (by kernel_rfl) (by kernel_rfl) (by kernel_rfl) ?_
  refine wpOps_val (o := opAt obd39 2) (v := .tuple #[.agg #[.int .i64 n], .bool true]) (w' := w) (by kernel_rfl) (by kernel_rfl) (by kernel_rfl) ?_
  refine wpOps_val (o := opAt obd39 3) (v := .agg #[.int .i64 n]) (w' := w) (by kernel_rfl) (by kernel_rfl) (by kernel_rfl) ?_
  refine wpOps_val (o := opAt obd39 4) (v := .bool true) (w' := w) (by kernel_rfl) (by kernel_rfl) (by kernel_rfl) ?_
  rw [e0, e1, e2, e3, e4]
  have e := exd39 n x
  rw [hF] at e
  have hall := opAt_all (ops := obd39) (i := 5) (k := 3) (by kernel_rfl)
  refine ops_sound cd39 (i := 5) (ops := (List.range' 5 3).map (opAt obd39)) (w0 := w) (fp := ⟨anc, hb, []⟩) e hall ⟨β, ?_⟩ ?_ ?_
  · refine R.act rfl (by simp [Act.put]) (by decide) (fun t av ht => ?_)
    by_cases h12 : t = 12
    · subst h12
      have ht : some (AV.c (.bool true)) = some av := ht
      cases ht
      exact avBool (by kernel_rfl)
    · by_cases h11 : t = 11
      · subst h11
        have ht : some (AV.agg [.int .i64 n]) = some av := ht
        cases ht
        exact avNum (by kernel_rfl)
      · have ht : upd (upd (Sd39.inp.enc x).env 11 (some (.agg [.int .i64 n]))) 12 (some (.c (.bool true))) t = some av := ht
        rw [upd_ne _ _ h12, upd_ne _ _ h11] at ht
        have h1 := R.env t av ht
        match t with
        | 0 => cases ht
        | 1 => exact avEq h1 (by kernel_rfl)
        | t + 2 => cases ht
  · rintro st' _ a w' h1 ⟨β', R'⟩
    exact wpOps_end (rest_callsL cd39 (fn := Go.Proofs.Try.f39) (S := Sd39) (c := Code.at' [1, 1] bodyd39) (ann := .none) (y := y) (w := w) (w1 := w') (st := st') (a := a) (β := β') (fp := ⟨anc, hb, []⟩) (by kernel_rfl) (by kernel_rfl) (by kernel_rfl) noCuts rfl h1 R')
  · intro t m st' rest _ a w' h1
    cases h1
noncomputable def entd39 : Ent := caughtEnt 79 Sd39 Fd39
theorem entd39_ok : EntOk Go.Proofs.Try.prog 39 entd39 := caught_ok (fn := Go.Proofs.Try.f39) (c := bodyd39) (by kernel_rfl) (by kernel_rfl) (by kernel_rfl) (by kernel_rfl) numd39 nild39
noncomputable def Ed39 : List (Nat × Ent) := [(39, entd39)]
theorem Ed39_ok : EntsOk Go.Proofs.Try.prog (ofL Ed39) := .cons entd39_ok (.nil _)

/-! ### the closure 38, by hand -/
noncomputable def bodyd38 : Code := (Go.Proofs.Try.f38.body).getD .skip
noncomputable def oad38 : Array Oper := opsOf (Code.at' [0] bodyd38)
theorem atd38 : bodyd38 = .seq (.region 0 oad38 false) (Code.at' [1] bodyd38) := by kernel_rfl
abbrev Sd38 : FL := ⟨⟨[(0, .ptr 1000000 0 1), (1, .ptr 1000001 0 3)], [.reg 1000000 (.cells [.int .i64]), .reg 1000001 (.cells [.int .u8, .fz (.int .u8), .fz .item])], [(1000000, .env 0 0), (1000001, .env 1 0)]⟩, 2, [(.ret, ⟨[], [.reg 1000000 (.cells [.int .i64]), .reg 1000001 (.cells [.int .u8, .fz (.int .u8), .fz .item])], []⟩)], [], true⟩
noncomputable def cd38 : Ctx Go.Proofs.Try.prog := ⟨dtab, ofL Ed39, dtabOk, Ed39_ok, ddep, dord⟩
noncomputable def FRd38 : Int × Int × List Int × List Tree → Option (Int × Int × List Int × List Tree) := fun (e, t, b, k) => if (e != 0) = true then some (e, 0, [], []) else some (e, t, b, k)
noncomputable def FPd38 (n : Int) : Int × Int × List Int × List Tree → Option (Int × Int × List Int × List Tree) := fun (e, t, b, k) => if (n != 0) = true then some (n, 0, [], []) else some (n, t, b, k)
theorem eqRd38 : ∀ x, cloF dtab (ofL Ed39) 7 Sd38 oad38 2 (opAt oad38 1) (Code.at' [1] bodyd38) .none .nilIface x = FRd38 x := by
  rintro ⟨e, i⟩
  kernel_rfl
theorem eqPd38 (n : Int) : ∀ x, cloF dtab (ofL Ed39) 7 Sd38 oad38 2 (opAt oad38 1) (Code.at' [1] bodyd38) .none (.iface 79 (.agg #[.int .i64 n])) x = FPd38 n x := by
  rintro ⟨e, i⟩
  kernel_rfl
theorem clod38 {u u' : FrameMode} {v : Value} (hu : Recovers u u' v) {F : Sd38.inT → Option Sd38.outT} (h : ∀ x, cloF dtab (ofL Ed39) 7 Sd38 oad38 2 (opAt oad38 1) (Code.at' [1] bodyd38) .none v x = F x) : CallsDL Go.Proofs.Try.prog 38 Sd38 u u' F :=
  clo_callsDL cd38 (fn := Go.Proofs.Try.f38) (id := 0) (ops := oad38) (rest := Code.at' [1] bodyd38) (ann := .none) (t0 := 2) (v := v) (o0 := opAt oad38 0) (o1 := opAt oad38 1) (by kernel_rfl) (by kernel_rfl) (by kernel_rfl) (by kernel_rfl) (by kernel_rfl) (by kernel_rfl) (by kernel_rfl) (by kernel_rfl) (by kernel_rfl) (fun a w => by kernel_rfl) (by kernel_rfl) (by kernel_rfl) (by kernel_rfl)
    noCuts hu h
theorem okd38 : CloOk Go.Proofs.Try.prog 38 Sd38 79 FRd38 FPd38 := ⟨clod38 (.inl ⟨rfl, rfl, rfl⟩) eqRd38, fun n => clod38 (.inr ⟨rfl, rfl⟩) (eqPd38 n)⟩

/-! ### the closure 45, by hand -/
noncomputable def bodyd45 : Code := (Go.Proofs.Try.f45.body).getD .skip
noncomputable def oad45 : Array Oper := opsOf (Code.at' [0] bodyd45)
theorem atd45 : bodyd45 = .seq (.region 0 oad45 false) (Code.at' [1] bodyd45) := by kernel_rfl
abbrev Sd45 : FL := ⟨⟨[(0, .ptr 1000000 0 1), (1, .ptr 1000001 0 1)], [.reg 1000000 (.cells [.int .i64]), .reg 1000001 (.cells [.fz (.int .u8)])], [(1000000, .env 0 0), (1000001, .env 1 0)]⟩, 2, [(.ret, ⟨[], [.reg 1000000 (.cells [.int .i64]), .reg 1000001 (.cells [.fz (.int .u8)])], []⟩)], [], true⟩
noncomputable def cd45 : Ctx Go.Proofs.Try.prog := ⟨dtab, ofL Ed39, dtabOk, Ed39_ok, ddep, dord⟩
noncomputable def FRd45 : Int × List Int → Option (Int × List Int) := fun (e, b) => if (e != 0) = true then some (e, []) else some (e, b)
noncomputable def FPd45 (n : Int) : Int × List Int → Option (Int × List Int) := fun (e, b) => if (n != 0) = true then some (n, []) else some (n, b)
theorem eqRd45 : ∀ x, cloF dtab (ofL Ed39) 6 Sd45 oad45 2 (opAt oad45 1) (Code.at' [1] bodyd45) .none .nilIface x = FRd45 x := by
  rintro ⟨e, i⟩
  kernel_rfl
theorem eqPd45 (n : Int) : ∀ x, cloF dtab (ofL Ed39) 6 Sd45 oad45 2 (opAt oad45 1) (Code.at' [1] bodyd45) .none (.iface 79 (.agg #[.int .i64 n])) x = FPd45 n x := by
  rintro ⟨e, i⟩
  kernel_rfl
theorem clod45 {u u' : FrameMode} {v : Value} (hu : Recovers u u' v) {F : Sd45.inT → Option Sd45.outT} (h : ∀ x, cloF dtab (ofL Ed39) 6 Sd45 oad45 2 (opAt oad45 1) (Code.at' [1] bodyd45) .none v x = F x) : CallsDL Go.Proofs.Try.prog 45 Sd45 u u' F :=
  clo_callsDL cd45 (fn := Go.Proofs.Try.f45) (id := 0) (ops := oad45) (rest := Code.at' [1] bodyd45) (ann := .none) (t0 := 2) (v := v) (o0 := opAt oad45 0) (o1 := opAt oad45 1) (by kernel_rfl) (by kernel_rfl) (by kernel_rfl) (by kernel_rfl) (by kernel_rfl) (by kernel_rfl) (by kernel_rfl) (by kernel_rfl) (by kernel_rfl) (fun a w => by kernel_rfl) (by kernel_rfl) (by kernel_rfl) (by kernel_rfl)
    noCuts hu h
theorem okd45 : CloOk Go.Proofs.Try.prog 45 Sd45 79 FRd45 FPd45 := ⟨clod45 (.inl ⟨rfl, rfl, rfl⟩) eqRd45, fun n => clod45 (.inr ⟨rfl, rfl⟩) (eqPd45 n)⟩

abbrev Sd11 : FL := ⟨⟨[], [.env 0 (.c (.fz (.int .u8)))], []⟩, 1, [(.ret, ⟨[], [.env 0 (.dat .item), .env 1 (.c (.int .i64))], []⟩)], [.cell 2 25, .cell 3 26], true⟩
noncomputable def bodyd11 : Code := (Go.Proofs.Try.f11.body).getD .skip
noncomputable def oad11 : Array Oper := opsOf (Code.at' [1, 0] bodyd11)
theorem atd11 : bodyd11 = .seq (Code.at' [0] bodyd11) (.seq (.region 1 oad11 false) (Code.at' [1, 1] bodyd11)) := by kernel_rfl
abbrev SMd11 : FL := ⟨⟨[(2, .ptr 1000001 0 3), (3, .ptr 1000000 0 1)], [.env 0 (.c (.fz (.int .u8))), .reg 1000000 (.cells [.int .i64]), .reg 1000001 (.cells [.int .u8, .fz (.int .u8), .fz .item])], [(1000000, .env 3 0), (1000001, .env 2 0)]⟩, 4, [(.ret, ⟨[], [.env 0 (.dat .item), .env 1 (.c (.int .i64))], []⟩)], [.cell 2 25, .cell 3 26], true⟩
noncomputable def cd11 : Ctx Go.Proofs.Try.prog := ⟨dtab, ofL Ed40, dtabOk, Ed40_ok, ddep, dord⟩
noncomputable def FMd11 : List Int × Int × (Int × List Int × List Tree) → Option (Tree × Int) := fun (b, e, i) =>
    if (decide ((b.length : Int) > 65536)) = true then some (Tree.node 0 [] [], 121)
    else (Fd40 (b, 1)).bind fun
      | .inr (n, _) => (FPd38 n (e, i)).bind fun (e', t, bb, k) => some (Tree.node t bb k, e')
      | .inl (it, rest) =>
        if (decide ((rest.length : Int) > 0)) = true then
          (Fd41 126).bind fun (n, _) => (FPd38 n (e, it.tag, it.body, it.kids)).bind fun (e', t, bb, k) => some (Tree.node t bb k, e')
        else some (Tree.node it.tag it.body it.kids, 0)
noncomputable def Fd11 : List Int → Option (Tree × Int) := fun (b : List Int) => (FMd11 (b, 0, (0, [], []))).bind fun (i, e) => some (Tree.node i.tag i.body i.kids, e)
theorem eqMd11 : ∀ x, exec dtab (ofL Ed40) 23 (Code.at' [1, 1] bodyd11) .none (finD dtab SMd11 [3, 2] (SMd11.inp.enc x) (funEntL Sd38 false FRd38) 79 (fun n => funEntL Sd38 false (FPd38 n))) (SMd11.inp.enc x) = FMd11 x := by
  rintro ⟨b, e, i⟩
  kernel_rfl
theorem eqd11 : ∀ x, deferF dtab (ofL Ed40) 23 (Code.at' [0] bodyd11) .none Sd11 SMd11 [0, 2, 3] 5 FMd11 x = Fd11 x := by
  intro b
  kernel_rfl
theorem callsd11 : CallsL Go.Proofs.Try.prog 11 Sd11 Fd11 :=
  defer_callsL cd11 (fn := Go.Proofs.Try.f11) (fnc := Go.Proofs.Try.f38) (A := Code.at' [0] bodyd11) (rest := Code.at' [1, 1] bodyd11) (id := 1) (ops := oad11) (cc := bodyd38) (o0 := opAt oad11 0) (o1 := opAt oad11 1) (tc := 5) (pt := 79) (cs := [3, 2]) (kn := [0, 2, 3]) (SM := SMd11) (SC := Sd38) (annA := .none) (ann := .none) (FR := FRd38) (FPn := FPd38) (FM := FMd11)
    (by kernel_rfl) (by kernel_rfl) (by kernel_rfl) (by kernel_rfl) (by kernel_rfl) (by kernel_rfl) (by kernel_rfl) (by kernel_rfl) (by kernel_rfl) (by kernel_rfl)
    (fun a w => by kernel_rfl) (fun a w vs h => defer_run (o := opAt oad11 1) (ats := #[]) (by kernel_rfl) h)
    (by kernel_rfl) (by kernel_rfl) (by kernel_rfl) (by kernel_rfl) okd38 (by kernel_rfl) (by kernel_rfl) (by kernel_rfl) (by kernel_rfl) (by kernel_rfl) (by kernel_rfl) (by kernel_rfl)
    noCuts noCuts eqMd11 eqd11
theorem entd11 : EntOk Go.Proofs.Try.prog 11 (funEntL Sd11 true Fd11) := fun_okL (fn := Go.Proofs.Try.f11) (c := bodyd11) (by kernel_rfl) (by kernel_rfl) (by kernel_rfl) (by kernel_rfl) callsd11

noncomputable def Ed11 : List (Nat × Ent) := (11, funEntL Sd11 true Fd11) :: Ed40
theorem Ed11_ok : EntsOk Go.Proofs.Try.prog (ofL Ed11) := .cons entd11 Ed40_ok

/-! ### barbican/barbicanlaw12.alive -/
noncomputable def bodyd15 : Code := (Go.Proofs.Try.f15.body).getD .skip
abbrev Sd15 : FL := ⟨⟨[], [], []⟩, 0, [(.ret, ⟨[], [.env 0 (.c (.bool))], []⟩)], [.tmp 0], false⟩
noncomputable def cd15 : Ctx Go.Proofs.Try.prog := ⟨dtab, ofL Ed11, dtabOk, Ed11_ok, ddep, dord⟩
noncomputable def Fd15 : Unit → Option ((Bool))
  | _ =>
    let f1 : List Int := ((((((List.replicate 5 (0 : Int)).set 0 48).set 1 3).set 2 2).set 3 1).set 4 5)
    (Fd11 f1).bind fun (y2, y3) =>
      (Fd11 (((List.replicate 2 (0 : Int)).set 0 4).set 1 128)).bind fun (y4, y5) =>
        if (y3 == 0) = true then
          if (y2.tag == 48) = true then
            if ((y2.kids.length : Int) == 1) = true then
              some (y5 == 124)
            else
              some false
          else
            some false
        else
          some false

noncomputable def annd15 : Ann := .none
theorem eqd15 : ∀ x : Sd15.inT, exec dtab (ofL Ed11) 32 bodyd15 annd15 (finL dtab Sd15) (Sd15.inp.enc x) = Fd15 x := by
  intro x
  kernel_rfl
theorem callsd15 : CallsL Go.Proofs.Try.prog 15 Sd15 Fd15 := by
  refine fun_callsL (fn := Go.Proofs.Try.f15) (c := bodyd15) (ann := annd15) cd15 (by kernel_rfl) (by kernel_rfl) (by kernel_rfl) (by kernel_rfl) (by kernel_rfl) (annOk_of_cuts ?_) eqd15
  intro x hx
  exact absurd hx (by show x ∉ ([] : List (List Nat × LEnt)); simp)

theorem entd15 : EntOk Go.Proofs.Try.prog 15 (funEntL Sd15 true Fd15) := fun_okL (fn := Go.Proofs.Try.f15) (c := bodyd15) (by kernel_rfl) (by kernel_rfl) (by kernel_rfl) (by kernel_rfl) callsd15
noncomputable def Ed15 : List (Nat × Ent) := (15, (funEntL Sd15 true Fd15)) :: Ed11
theorem Ed15_ok : EntsOk Go.Proofs.Try.prog (ofL Ed15) := .cons entd15 Ed11_ok

/-! ### barbican/der.plain -/
noncomputable def bodyd43 : Code := (Go.Proofs.Try.f43.body).getD .skip
abbrev Sd43 : FL := ⟨⟨[], [.env 0 (.c (.fzp .item)), .env 1 (.c (.int .u8))], []⟩, 2, [(.ret, ⟨[], [.env 0 (.c (.int .i64))], []⟩)], [.tmp 4], false⟩
noncomputable def cd43 : Ctx Go.Proofs.Try.prog := ⟨dtab, ofL Ed15, dtabOk, Ed15_ok, ddep, dord⟩
noncomputable def Fd43 : Tree × Int → Option ((Int))
  | (a0, a1) =>
    if (a0.tag != a1) = true then
      some 123
    else
      if (decide ((a0.kids.length : Int) > 0)) = false then
        if ((a0.body.length : Int) == 0) = true then
          some 127
        else
          some 0
      else
        some 127

noncomputable def annd43 : Ann := .none
theorem eqd43 : ∀ x : Sd43.inT, exec dtab (ofL Ed15) 27 bodyd43 annd43 (finL dtab Sd43) (Sd43.inp.enc x) = Fd43 x := by
  rintro ⟨a0, a1⟩
  kernel_rfl
theorem callsd43 : CallsL Go.Proofs.Try.prog 43 Sd43 Fd43 := by
  refine fun_callsL (fn := Go.Proofs.Try.f43) (c := bodyd43) (ann := annd43) cd43 (by kernel_rfl) (by kernel_rfl) (by kernel_rfl) (by kernel_rfl) (by kernel_rfl) (annOk_of_cuts ?_) eqd43
  intro x hx
  exact absurd hx (by show x ∉ ([] : List (List Nat × LEnt)); simp)

theorem entd43 : EntOk Go.Proofs.Try.prog 43 (funEntL Sd43 true Fd43) := fun_okL (fn := Go.Proofs.Try.f43) (c := bodyd43) (by kernel_rfl) (by kernel_rfl) (by kernel_rfl) (by kernel_rfl) callsd43
noncomputable def Ed43 : List (Nat × Ent) := (43, (funEntL Sd43 true Fd43)) :: Ed15
theorem Ed43_ok : EntsOk Go.Proofs.Try.prog (ofL Ed43) := .cons entd43 Ed15_ok

/-! ### barbican/der.Bits -/
noncomputable def bodyd17 : Code := (Go.Proofs.Try.f17.body).getD .skip
abbrev Sd17 : FL := ⟨⟨[], [.env 0 (.dat .item)], []⟩, 1, [(.ret, ⟨[(0, .full 3)], [.reg 3 (.row 5 .u8), .env 1 (.c (.int .i64))], [(3, .env 0 0)]⟩)], [.tmp 2, .tmp 3], false⟩
noncomputable def cd17 : Ctx Go.Proofs.Try.prog := ⟨dtab, ofL Ed43, dtabOk, Ed43_ok, ddep, dord⟩
noncomputable def Fd17 : Tree → Option ((List Int × Int))
  | a0 =>
    (Fd43 ((Tree.node a0.tag a0.body a0.kids), 3)).bind fun y1 =>
      if (y1 != 0) = true then
        some (([] : List Int), y1)
      else
        if (0 : Int) ≤ (0 : Int) ∧ (0 : Int) < (a0.body.length : Int) then
          if ((a0.body.getD 0 0) != 0) = true then
            some (([] : List Int), 127)
          else
            if (0 : Int) ≤ (1 : Int) ∧ (1 : Int) ≤ (a0.body.length : Int) then
              (Fd44 (a0.body.drop 1)).bind fun y2 =>
                some (y2, 0)
            else none
        else none

noncomputable def annd17 : Ann := .none
theorem eqd17 : ∀ x : Sd17.inT, exec dtab (ofL Ed43) 18 bodyd17 annd17 (finL dtab Sd17) (Sd17.inp.enc x) = Fd17 x := by
  intro x
  kernel_rfl
theorem callsd17 : CallsL Go.Proofs.Try.prog 17 Sd17 Fd17 := by
  refine fun_callsL (fn := Go.Proofs.Try.f17) (c := bodyd17) (ann := annd17) cd17 (by kernel_rfl) (by kernel_rfl) (by kernel_rfl) (by kernel_rfl) (by kernel_rfl) (annOk_of_cuts ?_) eqd17
  intro x hx
  exact absurd hx (by show x ∉ ([] : List (List Nat × LEnt)); simp)

theorem entd17 : EntOk Go.Proofs.Try.prog 17 (funEntL Sd17 true Fd17) := fun_okL (fn := Go.Proofs.Try.f17) (c := bodyd17) (by kernel_rfl) (by kernel_rfl) (by kernel_rfl) (by kernel_rfl) callsd17
noncomputable def Ed17 : List (Nat × Ent) := (17, (funEntL Sd17 true Fd17)) :: Ed43
theorem Ed17_ok : EntsOk Go.Proofs.Try.prog (ofL Ed17) := .cons entd17 Ed43_ok

/-! ### barbican/barbicanref12.Bits -/
noncomputable def bodyd18 : Code := (Go.Proofs.Try.f18.body).getD .skip
abbrev Sd18 : FL := ⟨⟨[], [.env 0 (.dat .item)], []⟩, 1, [(.ret, ⟨[(0, .full 3)], [.reg 3 (.row 5 .u8), .env 1 (.c (.int .i64))], [(3, .env 0 0)]⟩)], [.tmp 2, .tmp 3], false⟩
noncomputable def cd18 : Ctx Go.Proofs.Try.prog := ⟨dtab, ofL Ed17, dtabOk, Ed17_ok, ddep, dord⟩
noncomputable def Fd18 : Tree → Option ((List Int × Int))
  | a0 =>
    if (a0.tag != 3) = true then
      some (([] : List Int), 123)
    else
      if ((a0.body.length : Int) == 0) = false then
        if (0 : Int) ≤ (0 : Int) ∧ (0 : Int) < (a0.body.length : Int) then
          if ((a0.body.getD 0 0) != 0) = false then
            if (decide ((a0.kids.length : Int) > 0)) = true then
              some (([] : List Int), 127)
            else
              if (0 : Int) ≤ (1 : Int) ∧ (1 : Int) ≤ (a0.body.length : Int) then
                if okBytes ((List.replicate 0 (0 : Int)).length + (a0.body.drop 1).length) 1 then
                  some (((List.replicate 0 (0 : Int)) ++ (a0.body.drop 1)), 0)
                else none
              else none
          else
            some (([] : List Int), 127)
        else none
      else
        some (([] : List Int), 127)

noncomputable def annd18 : Ann := .none
theorem eqd18 : ∀ x : Sd18.inT, exec dtab (ofL Ed17) 29 bodyd18 annd18 (finL dtab Sd18) (Sd18.inp.enc x) = Fd18 x := by
  intro x
  kernel_rfl
theorem callsd18 : CallsL Go.Proofs.Try.prog 18 Sd18 Fd18 := by
  refine fun_callsL (fn := Go.Proofs.Try.f18) (c := bodyd18) (ann := annd18) cd18 (by kernel_rfl) (by kernel_rfl) (by kernel_rfl) (by kernel_rfl) (by kernel_rfl) (annOk_of_cuts ?_) eqd18
  intro x hx
  exact absurd hx (by show x ∉ ([] : List (List Nat × LEnt)); simp)

theorem entd18 : EntOk Go.Proofs.Try.prog 18 (funEntL Sd18 true Fd18) := fun_okL (fn := Go.Proofs.Try.f18) (c := bodyd18) (by kernel_rfl) (by kernel_rfl) (by kernel_rfl) (by kernel_rfl) callsd18
noncomputable def Ed18 : List (Nat × Ent) := (18, (funEntL Sd18 true Fd18)) :: Ed17
theorem Ed18_ok : EntsOk Go.Proofs.Try.prog (ofL Ed18) := .cons entd18 Ed17_ok

/-! ### barbican/barbicanref01.Same -/
noncomputable def bodyd14 : Code := (Go.Proofs.Try.f14.body).getD .skip
abbrev Sd14 : FL := ⟨⟨[], [.env 0 (.c (.fz (.int .u8))), .env 1 (.c (.fz (.int .u8)))], []⟩, 2, [(.ret, ⟨[], [.env 0 (.c (.bool))], []⟩)], [.tmp 4], false⟩
noncomputable def cd14 : Ctx Go.Proofs.Try.prog := ⟨dtab, ofL Ed18, dtabOk, Ed18_ok, ddep, dord⟩
abbrev ld14_0 : Lay := ⟨[], [.env 0 (.c (.fz (.int .u8))), .env 1 (.c (.fz (.int .u8))), .env 5 (.c (.int .i64))], []⟩
abbrev od14_0 : List (AExit × Lay) := [(.ret, ⟨[], [.env 4 (.c (.bool))], []⟩), (.exit 0, ⟨[], [], []⟩)]
noncomputable def stepd14_0 : (List Int) × (List Int) × Int → Option (((List Int) × (List Int) × Int) ⊕ ((Bool) ⊕ (Unit)))
  | (t0, t1, t5) =>
    if (decide (t5 < (t0.length : Int))) = true then
      if (0 : Int) ≤ t5 ∧ t5 < (t0.length : Int) then
        if (0 : Int) ≤ t5 ∧ t5 < (t1.length : Int) then
          if ((t0.getD t5.toNat 0) != (t1.getD t5.toNat 0)) = true then
            some (.inr (.inl false))
          else
            some (.inl (t0, t1, (IntKind.i64.wrap (t5 + 1))))
        else none
      else none
    else
      some (.inr (.inr ()))

noncomputable def annd14_0 : Ann := .none
noncomputable def Fd14 : (List Int) × (List Int) → Option ((Bool))
  | (a0, a1) =>
    if ((a0.length : Int) != (a1.length : Int)) = true then
      some false
    else
      (loopO stepd14_0 (a0, a1, 0)).bind fun
        | (.inl z1) =>
          some z1
        | (.inr _) =>
          some true

noncomputable def annd14 : Ann := (.seq .none (.seq .none (.seq (.seq .none (.seq (.cut (cutEnt ld14_0 od14_0 (loopO (stepd14_0)))) .none)) .none)))
theorem eqd14_0 : ∀ s : ld14_0.T, exec dtab (ofL Ed18) 26 (Code.at' [1, 1, 0, 1, 0, 0] bodyd14) annd14_0 (fun e st => loopEnd (l := ld14_0) (outs := od14_0) e st) (ld14_0.enc s) = stepd14_0 s := by
  rintro ⟨t0, t1, t5⟩
  kernel_rfl
theorem okd14_0 : LOk Go.Proofs.Try.prog 26 (cutEnt ld14_0 od14_0 (loopO stepd14_0)) (Code.at' [1, 1, 0, 1, 0] bodyd14) := by
  have e : Code.at' [1, 1, 0, 1, 0] bodyd14 = .loop (Code.at' [1, 1, 0, 1, 0, 0] bodyd14) := by kernel_rfl
  rw [e]
  refine loop_ok cd14 26 rfl rfl (annOk_of_cuts ?_) eqd14_0
  intro x hx
  exact absurd hx (by show x ∉ ([] : List (List Nat × LEnt)); simp)

theorem eqd14 : ∀ x : Sd14.inT, exec dtab (ofL Ed18) 26 bodyd14 annd14 (finL dtab Sd14) (Sd14.inp.enc x) = Fd14 x := by
  rintro ⟨a0, a1⟩
  kernel_rfl
theorem callsd14 : CallsL Go.Proofs.Try.prog 14 Sd14 Fd14 := by
  refine fun_callsL (fn := Go.Proofs.Try.f14) (c := bodyd14) (ann := annd14) cd14 (by kernel_rfl) (by kernel_rfl) (by kernel_rfl) (by kernel_rfl) (by kernel_rfl) (annOk_of_cuts ?_) eqd14
  have hc : Ann.cuts annd14 = [([1, 1, 0, 1, 0], (cutEnt ld14_0 od14_0 (loopO (stepd14_0))))] := by kernel_rfl
  rw [hc]
  intro x hx
  simp only [List.mem_cons, List.not_mem_nil, or_false] at hx
  rcases hx with rfl
  · have e : Code.at' [1, 1, 0, 1, 0] bodyd14 = Code.at' [1, 1, 0, 1, 0] bodyd14 := by kernel_rfl
    rw [e]; exact okd14_0

theorem entd14 : EntOk Go.Proofs.Try.prog 14 (funEntL Sd14 true Fd14) := fun_okL (fn := Go.Proofs.Try.f14) (c := bodyd14) (by kernel_rfl) (by kernel_rfl) (by kernel_rfl) (by kernel_rfl) callsd14
noncomputable def Ed14 : List (Nat × Ent) := (14, (funEntL Sd14 true Fd14)) :: Ed18
theorem Ed14_ok : EntsOk Go.Proofs.Try.prog (ofL Ed14) := .cons entd14 Ed18_ok

/-! ### barbican/der.OfBits -/
noncomputable def bodyd19 : Code := (Go.Proofs.Try.f19.body).getD .skip
abbrev Sd19 : FL := ⟨⟨[], [.env 0 (.c (.fz (.int .u8)))], []⟩, 1, [(.ret, ⟨[], [.env 0 (.dat .item)], []⟩)], [.cell 2 25], true⟩
noncomputable def cd19 : Ctx Go.Proofs.Try.prog := ⟨dtab, ofL Ed14, dtabOk, Ed14_ok, ddep, dord⟩
noncomputable def Fd19 : (List Int) → Option ((Tree))
  | a0 =>
    if okBytes (((List.replicate 1 (0 : Int)).set 0 0).length + a0.length) 1 then
      some (Tree.node 3 (((List.replicate 1 (0 : Int)).set 0 0) ++ a0) ([] : List Tree))
    else none

noncomputable def annd19 : Ann := .none
theorem eqd19 : ∀ x : Sd19.inT, exec dtab (ofL Ed14) 7 bodyd19 annd19 (finL dtab Sd19) (Sd19.inp.enc x) = Fd19 x := by
  intro x
  kernel_rfl
theorem callsd19 : CallsL Go.Proofs.Try.prog 19 Sd19 Fd19 := by
  refine fun_callsL (fn := Go.Proofs.Try.f19) (c := bodyd19) (ann := annd19) cd19 (by kernel_rfl) (by kernel_rfl) (by kernel_rfl) (by kernel_rfl) (by kernel_rfl) (annOk_of_cuts ?_) eqd19
  intro x hx
  exact absurd hx (by show x ∉ ([] : List (List Nat × LEnt)); simp)

theorem entd19 : EntOk Go.Proofs.Try.prog 19 (funEntL Sd19 true Fd19) := fun_okL (fn := Go.Proofs.Try.f19) (c := bodyd19) (by kernel_rfl) (by kernel_rfl) (by kernel_rfl) (by kernel_rfl) callsd19
noncomputable def Ed19 : List (Nat × Ent) := (19, (funEntL Sd19 true Fd19)) :: Ed14
theorem Ed19_ok : EntsOk Go.Proofs.Try.prog (ofL Ed19) := .cons entd19 Ed14_ok

/-! ### barbican/barbicanref12.OfBits -/
noncomputable def bodyd20 : Code := (Go.Proofs.Try.f20.body).getD .skip
abbrev Sd20 : FL := ⟨⟨[], [.env 0 (.c (.fz (.int .u8)))], []⟩, 1, [(.ret, ⟨[], [.env 0 (.dat .item)], []⟩)], [.cell 2 25], true⟩
noncomputable def cd20 : Ctx Go.Proofs.Try.prog := ⟨dtab, ofL Ed19, dtabOk, Ed19_ok, ddep, dord⟩
noncomputable def Fd20 : (List Int) → Option ((Tree))
  | a0 =>
    if okBytes (((List.replicate 1 (0 : Int)).set 0 0).length + a0.length) 1 then
      some (Tree.node 3 (((List.replicate 1 (0 : Int)).set 0 0) ++ a0) ([] : List Tree))
    else none

noncomputable def annd20 : Ann := .none
theorem eqd20 : ∀ x : Sd20.inT, exec dtab (ofL Ed19) 7 bodyd20 annd20 (finL dtab Sd20) (Sd20.inp.enc x) = Fd20 x := by
  intro x
  kernel_rfl
theorem callsd20 : CallsL Go.Proofs.Try.prog 20 Sd20 Fd20 := by
  refine fun_callsL (fn := Go.Proofs.Try.f20) (c := bodyd20) (ann := annd20) cd20 (by kernel_rfl) (by kernel_rfl) (by kernel_rfl) (by kernel_rfl) (by kernel_rfl) (annOk_of_cuts ?_) eqd20
  intro x hx
  exact absurd hx (by show x ∉ ([] : List (List Nat × LEnt)); simp)

theorem entd20 : EntOk Go.Proofs.Try.prog 20 (funEntL Sd20 true Fd20) := fun_okL (fn := Go.Proofs.Try.f20) (c := bodyd20) (by kernel_rfl) (by kernel_rfl) (by kernel_rfl) (by kernel_rfl) callsd20
noncomputable def Ed20 : List (Nat × Ent) := (20, (funEntL Sd20 true Fd20)) :: Ed19
theorem Ed20_ok : EntsOk Go.Proofs.Try.prog (ofL Ed20) := .cons entd20 Ed19_ok

/-! ### barbican/barbicanref12.Same -/
noncomputable def bodyd12 : Code := (Go.Proofs.Try.f12.body).getD .skip
abbrev Sd12 : FL := ⟨⟨[], [.env 0 (.dat .item), .env 1 (.dat .item)], []⟩, 2, [(.ret, ⟨[], [.env 0 (.c (.bool))], []⟩)], [.tmp 4], false⟩
noncomputable def cd12 (G : Sd12.inT → Option Sd12.outT) (hG : CallsL Go.Proofs.Try.prog 12 Sd12 G) : Ctx Go.Proofs.Try.prog := ⟨dtab, ofL ((12, funEntL Sd12 true G) :: Ed20), dtabOk, .cons (fun_okL (fn := Go.Proofs.Try.f12) (c := bodyd12) (by kernel_rfl) (by kernel_rfl) (by kernel_rfl) (by kernel_rfl) hG) Ed20_ok, ddep, dord⟩
abbrev ld12_0 : Lay := ⟨[(2, .ptr 2 0 3), (3, .ptr 3 0 3)], [.env 5 (.c (.int .i64)), .reg 2 (.cells [.int .u8, .fz (.int .u8), .fz .item]), .reg 3 (.cells [.int .u8, .fz (.int .u8), .fz .item])], [(2, .env 2 0), (3, .env 3 0)]⟩
abbrev od12_0 : List (AExit × Lay) := [(.ret, ⟨[], [.env 4 (.c (.bool))], []⟩), (.exit 0, ⟨[(2, .ptr 2 0 3), (3, .ptr 3 0 3)], [.reg 2 (.cells [.int .u8, .fz (.int .u8), .fz .item]), .reg 3 (.cells [.int .u8, .fz (.int .u8), .fz .item])], [(2, .env 2 0), (3, .env 3 0)]⟩)]
noncomputable def stepd12_0 (G : Tree × Tree → Option ((Bool))) : Int × (Int × (List Int) × (List Tree)) × (Int × (List Int) × (List Tree)) → Option ((Int × (Int × (List Int) × (List Tree)) × (Int × (List Int) × (List Tree))) ⊕ ((Bool) ⊕ ((Int × (List Int) × (List Tree)) × (Int × (List Int) × (List Tree)))))
  | (t5, r2, r3) =>
    if (decide (t5 < (r2.2.1.length : Int))) = true then
      if (0 : Int) ≤ t5 ∧ t5 < (r2.2.1.length : Int) then
        if (0 : Int) ≤ t5 ∧ t5 < (r3.2.1.length : Int) then
          if ((r2.2.1.getD t5.toNat 0) != (r3.2.1.getD t5.toNat 0)) = true then
            some (.inr (.inl false))
          else
            some (.inl ((IntKind.i64.wrap (t5 + 1)), (r2.1, r2.2.1, r2.2.2), (r3.1, r3.2.1, r3.2.2)))
        else none
      else none
    else
      some (.inr (.inr ((r2.1, r2.2.1, r2.2.2), (r3.1, r3.2.1, r3.2.2))))

noncomputable def annd12_0 (G : Tree × Tree → Option ((Bool))) : Ann := .none
abbrev ld12_1 : Lay := ⟨[(2, .ptr 2 0 3), (3, .ptr 3 0 3)], [.env 6 (.c (.int .i64)), .reg 2 (.cells [.int .u8, .fz (.int .u8), .fz .item]), .reg 3 (.cells [.int .u8, .fz (.int .u8), .fz .item])], [(2, .env 2 0), (3, .env 3 0)]⟩
abbrev od12_1 : List (AExit × Lay) := [(.ret, ⟨[], [.env 4 (.c (.bool))], []⟩), (.exit 2, ⟨[], [], []⟩)]
noncomputable def stepd12_1 (G : Tree × Tree → Option ((Bool))) : Int × (Int × (List Int) × (List Tree)) × (Int × (List Int) × (List Tree)) → Option ((Int × (Int × (List Int) × (List Tree)) × (Int × (List Int) × (List Tree))) ⊕ ((Bool) ⊕ (Unit)))
  | (t6, r2, r3) =>
    if (decide (t6 < (r2.2.2.length : Int))) = true then
      if (0 : Int) ≤ t6 ∧ t6 < (r2.2.2.length : Int) then
        if (0 : Int) ≤ t6 ∧ t6 < (r3.2.2.length : Int) then
          (G ((Tree.node (r2.2.2.getD t6.toNat (DT.dflt .item)).tag (r2.2.2.getD t6.toNat (DT.dflt .item)).body (r2.2.2.getD t6.toNat (DT.dflt .item)).kids), (Tree.node (r3.2.2.getD t6.toNat (DT.dflt .item)).tag (r3.2.2.getD t6.toNat (DT.dflt .item)).body (r3.2.2.getD t6.toNat (DT.dflt .item)).kids))).bind fun y4 =>
            if (!y4) = true then
              some (.inr (.inl false))
            else
              some (.inl ((IntKind.i64.wrap (t6 + 1)), (r2.1, r2.2.1, r2.2.2), (r3.1, r3.2.1, r3.2.2)))
        else none
      else none
    else
      some (.inr (.inr ()))

noncomputable def annd12_1 (G : Tree × Tree → Option ((Bool))) : Ann := .none
noncomputable def Bd12 (G : Tree × Tree → Option ((Bool))) : Tree × Tree → Option ((Bool))
  | (a0, a1) =>
    if (a0.tag != a1.tag) = false then
      if ((a0.body.length : Int) != (a1.body.length : Int)) = false then
        if ((a0.kids.length : Int) != (a1.kids.length : Int)) = true then
          some false
        else
          (loopO (stepd12_0 G) (0, (a0.tag, a0.body, a0.kids), (a1.tag, a1.body, a1.kids))).bind fun
            | (.inl z1) =>
              some z1
            | (.inr (z2, z3)) =>
              (loopO (stepd12_1 G) (0, (z2.1, z2.2.1, z2.2.2), (z3.1, z3.2.1, z3.2.2))).bind fun
                | (.inl z5) =>
                  some z5
                | (.inr _) =>
                  some true
      else
        some false
    else
      some false

noncomputable def annd12 (G : Tree × Tree → Option ((Bool))) : Ann := (.seq .none (.seq .none (.seq (.seq .none (.seq (.cut (cutEnt ld12_0 od12_0 (loopO (stepd12_0 G)))) .none)) (.seq (.seq .none (.seq (.cut (cutEnt ld12_1 od12_1 (loopO (stepd12_1 G)))) .none)) .none))))
theorem eqd12_0 (G : Sd12.inT → Option Sd12.outT) (hG : CallsL Go.Proofs.Try.prog 12 Sd12 G) : ∀ s : ld12_0.T, exec dtab (ofL ((12, funEntL Sd12 true G) :: Ed20)) 69 (Code.at' [1, 1, 0, 1, 0, 0] bodyd12) (annd12_0 G) (fun e st => loopEnd (l := ld12_0) (outs := od12_0) e st) (ld12_0.enc s) = stepd12_0 G s := by
  rintro ⟨t5, r2, r3⟩
  kernel_rfl
theorem okd12_0 (G : Sd12.inT → Option Sd12.outT) (hG : CallsL Go.Proofs.Try.prog 12 Sd12 G) : LOk Go.Proofs.Try.prog 69 (cutEnt ld12_0 od12_0 (loopO (stepd12_0 G))) (Code.at' [1, 1, 0, 1, 0] bodyd12) := by
  have e : Code.at' [1, 1, 0, 1, 0] bodyd12 = .loop (Code.at' [1, 1, 0, 1, 0, 0] bodyd12) := by kernel_rfl
  rw [e]
  refine loop_ok (cd12 G hG) 69 rfl rfl (annOk_of_cuts ?_) (eqd12_0 G hG)
  intro x hx
  exact absurd hx (by show x ∉ ([] : List (List Nat × LEnt)); simp)

theorem eqd12_1 (G : Sd12.inT → Option Sd12.outT) (hG : CallsL Go.Proofs.Try.prog 12 Sd12 G) : ∀ s : ld12_1.T, exec dtab (ofL ((12, funEntL Sd12 true G) :: Ed20)) 69 (Code.at' [1, 1, 1, 0, 1, 0, 0] bodyd12) (annd12_1 G) (fun e st => loopEnd (l := ld12_1) (outs := od12_1) e st) (ld12_1.enc s) = stepd12_1 G s := by
  rintro ⟨t6, r2, r3⟩
  kernel_rfl
theorem okd12_1 (G : Sd12.inT → Option Sd12.outT) (hG : CallsL Go.Proofs.Try.prog 12 Sd12 G) : LOk Go.Proofs.Try.prog 69 (cutEnt ld12_1 od12_1 (loopO (stepd12_1 G))) (Code.at' [1, 1, 1, 0, 1, 0] bodyd12) := by
  have e : Code.at' [1, 1, 1, 0, 1, 0] bodyd12 = .loop (Code.at' [1, 1, 1, 0, 1, 0, 0] bodyd12) := by kernel_rfl
  rw [e]
  refine loop_ok (cd12 G hG) 69 rfl rfl (annOk_of_cuts ?_) (eqd12_1 G hG)
  intro x hx
  exact absurd hx (by show x ∉ ([] : List (List Nat × LEnt)); simp)

theorem eqd12 (G : Sd12.inT → Option Sd12.outT) (hG : CallsL Go.Proofs.Try.prog 12 Sd12 G) : ∀ x : Sd12.inT, exec dtab (ofL ((12, funEntL Sd12 true G) :: Ed20)) 69 bodyd12 (annd12 G) (finL dtab Sd12) (Sd12.inp.enc x) = Bd12 G x := by
  rintro ⟨a0, a1⟩
  kernel_rfl
theorem bcallsd12 (G : Sd12.inT → Option Sd12.outT) (hG : CallsL Go.Proofs.Try.prog 12 Sd12 G) : CallsL Go.Proofs.Try.prog 12 Sd12 (Bd12 G) := by
  refine fun_callsL (fn := Go.Proofs.Try.f12) (c := bodyd12) (ann := (annd12 G)) (cd12 G hG) (by kernel_rfl) (by kernel_rfl) (by kernel_rfl) (by kernel_rfl) (by kernel_rfl) (annOk_of_cuts ?_) (eqd12 G hG)
  have hc : Ann.cuts (annd12 G) = [([1, 1, 0, 1, 0], (cutEnt ld12_0 od12_0 (loopO (stepd12_0 G)))), ([1, 1, 1, 0, 1, 0], (cutEnt ld12_1 od12_1 (loopO (stepd12_1 G))))] := by kernel_rfl
  rw [hc]
  intro x hx
  simp only [List.mem_cons, List.not_mem_nil, or_false] at hx
  rcases hx with rfl | rfl
  · have e : Code.at' [1, 1, 0, 1, 0] bodyd12 = Code.at' [1, 1, 0, 1, 0] bodyd12 := by kernel_rfl
    rw [e]; exact okd12_0 G hG
  · have e : Code.at' [1, 1, 1, 0, 1, 0] bodyd12 = Code.at' [1, 1, 1, 0, 1, 0] bodyd12 := by kernel_rfl
    rw [e]; exact okd12_1 G hG

noncomputable def FRd12 : Nat → Tree × Tree → Option ((Bool))
  | 0 => fun _ => none
  | k + 1 => Bd12 (FRd12 k)
theorem rcallsd12 : ∀ k, CallsL Go.Proofs.Try.prog 12 Sd12 (FRd12 k)
  | 0 => fun _ _ _ _ _ _ _ _ h => by cases h
  | k + 1 => bcallsd12 (FRd12 k) (rcallsd12 k)
noncomputable def Fd12 (x : Tree × Tree) : Option ((Bool)) := FRd12 (Tree.rank x.1 + 1) x
theorem callsd12 : CallsL Go.Proofs.Try.prog 12 Sd12 Fd12 := fun us x y w fp β h1 h2 h3 h4 => rcallsd12 _ us x y w fp β h1 h2 h3 h4
theorem entd12 : EntOk Go.Proofs.Try.prog 12 (funEntL Sd12 true Fd12) := fun_okL (fn := Go.Proofs.Try.f12) (c := bodyd12) (by kernel_rfl) (by kernel_rfl) (by kernel_rfl) (by kernel_rfl) callsd12
noncomputable def Ed12 : List (Nat × Ent) := (12, (funEntL Sd12 true Fd12)) :: Ed20
theorem Ed12_ok : EntsOk Go.Proofs.Try.prog (ofL Ed12) := .cons entd12 Ed20_ok

/-! ### barbican/barbicanlaw12.DerBits -/
noncomputable def bodyd4 : Code := (Go.Proofs.Try.f4.body).getD .skip
abbrev Sd4 : FL := ⟨⟨[], [.env 0 (.dat .item), .env 1 (.c (.fz (.int .u8)))], []⟩, 2, [(.ret, ⟨[], [.env 0 (.c (.bool))], []⟩)], [.tmp 4], false⟩
noncomputable def cd4 : Ctx Go.Proofs.Try.prog := ⟨dtab, ofL Ed12, dtabOk, Ed12_ok, ddep, dord⟩
noncomputable def Fd4 : Tree × (List Int) → Option ((Bool))
  | (a0, a1) =>
    (Fd16 (Tree.node a0.tag a0.body a0.kids)).bind fun y1 =>
      if y1 = true then
        (Fd15 ()).bind fun y2 =>
          some y2
      else
        (Fd17 (Tree.node a0.tag a0.body a0.kids)).bind fun (y3, y4) =>
          (Fd18 (Tree.node a0.tag a0.body a0.kids)).bind fun (y5, y6) =>
            (Fd14 (y3, y5)).bind fun y7 =>
              (Fd19 a1).bind fun y8 =>
                (Fd20 a1).bind fun y9 =>
                  (Fd12 ((Tree.node y8.tag y8.body y8.kids), (Tree.node y9.tag y9.body y9.kids))).bind fun y10 =>
                    (Fd17 (Tree.node y8.tag y8.body y8.kids)).bind fun (y11, y12) =>
                      (Fd14 (y11, a1)).bind fun y13 =>
                        (Fd15 ()).bind fun y14 =>
                          if y14 = true then
                            if (y4 == y6) = true then
                              if y7 = true then
                                if y10 = true then
                                  if (y12 == 0) = true then
                                    some y13
                                  else
                                    some false
                                else
                                  some false
                              else
                                some false
                            else
                              some false
                          else
                            some false

noncomputable def annd4 : Ann := .none
theorem eqd4 : ∀ x : Sd4.inT, exec dtab (ofL Ed12) 66 bodyd4 annd4 (finL dtab Sd4) (Sd4.inp.enc x) = Fd4 x := by
  rintro ⟨a0, a1⟩
  kernel_rfl
theorem callsd4 : CallsL Go.Proofs.Try.prog 4 Sd4 Fd4 := by
  refine fun_callsL (fn := Go.Proofs.Try.f4) (c := bodyd4) (ann := annd4) cd4 (by kernel_rfl) (by kernel_rfl) (by kernel_rfl) (by kernel_rfl) (by kernel_rfl) (annOk_of_cuts ?_) eqd4
  intro x hx
  exact absurd hx (by show x ∉ ([] : List (List Nat × LEnt)); simp)

theorem entd4 : EntOk Go.Proofs.Try.prog 4 (funEntL Sd4 true Fd4) := fun_okL (fn := Go.Proofs.Try.f4) (c := bodyd4) (by kernel_rfl) (by kernel_rfl) (by kernel_rfl) (by kernel_rfl) callsd4
noncomputable def Ed4 : List (Nat × Ent) := (4, (funEntL Sd4 true Fd4)) :: Ed12
theorem Ed4_ok : EntsOk Go.Proofs.Try.prog (ofL Ed4) := .cons entd4 Ed12_ok

/-! ### barbican/barbicanlaw12.Copied -/
noncomputable def bodyd21 : Code := (Go.Proofs.Try.f21.body).getD .skip
abbrev Sd21 : FL := ⟨⟨[], [.env 0 (.dat .item)], []⟩, 1, [(.ret, ⟨[], [.env 0 (.dat .item)], []⟩)], [.cell 2 25], true⟩
noncomputable def cd21 (G : Sd21.inT → Option Sd21.outT) (hG : CallsL Go.Proofs.Try.prog 21 Sd21 G) : Ctx Go.Proofs.Try.prog := ⟨dtab, ofL ((21, funEntL Sd21 true G) :: Ed4), dtabOk, .cons (fun_okL (fn := Go.Proofs.Try.f21) (c := bodyd21) (by kernel_rfl) (by kernel_rfl) (by kernel_rfl) (by kernel_rfl) hG) Ed4_ok, ddep, dord⟩
abbrev ld21_0 : Lay := ⟨[(1, .ptr 1 0 3), (2, .ptr 2 0 3), (3, .ptr 3 0 3)], [.env 4 (.c (.int .i64)), .reg 1 (.cells [.int .u8, .fz (.int .u8), .fz .item]), .reg 2 (.cells [.int .u8, .nils, .nils]), .reg 3 (.cells [.int .u8, .full 10, .full 600194]), .reg 600194 (.rowd 25 .item), .reg 10 (.row 5 .u8)], [(1, .env 1 0), (2, .env 2 0), (3, .env 3 0), (10, .reg 3 1), (600194, .reg 3 2)]⟩
abbrev od21_0 : List (AExit × Lay) := [(.exit 0, ⟨[(2, .ptr 2 0 3), (3, .ptr 3 0 3)], [.reg 2 (.cells [.int .u8, .nils, .nils]), .reg 3 (.cells [.int .u8, .full 10, .full 600194]), .reg 10 (.row 5 .u8), .reg 600194 (.rowd 25 .item)], [(2, .env 2 0), (3, .env 3 0), (10, .reg 3 1), (600194, .reg 3 2)]⟩)]
noncomputable def stepd21_0 (G : Tree → Option ((Tree))) : Int × (Int × (List Int) × (List Tree)) × (Int × Unit × Unit) × (Int × Unit × Unit) × List Tree × List Int → Option ((Int × (Int × (List Int) × (List Tree)) × (Int × Unit × Unit) × (Int × Unit × Unit) × List Tree × List Int) ⊕ (((Int × Unit × Unit) × (Int × Unit × Unit) × List Int × List Tree)))
  | (t4, r1, r2, r3, r600194, r10) =>
    if (decide (t4 < (r1.2.2.length : Int))) = true then
      if (0 : Int) ≤ t4 ∧ t4 < (r1.2.2.length : Int) then
        (G (Tree.node (r1.2.2.getD t4.toNat (DT.dflt .item)).tag (r1.2.2.getD t4.toNat (DT.dflt .item)).body (r1.2.2.getD t4.toNat (DT.dflt .item)).kids)).bind fun y1 =>
          if okBytes (r600194.length + ([(Tree.node y1.tag y1.body y1.kids)] : List Tree).length) 56 then
            let f2 : List Tree := (r600194 ++ ([(Tree.node y1.tag y1.body y1.kids)] : List Tree))
            some (.inl ((IntKind.i64.wrap (t4 + 1)), (r1.1, r1.2.1, r1.2.2), (r2.1, (), ()), (r3.1, (), ()), f2, r10))
          else none
      else none
    else
      some (.inr ((r2.1, (), ()), (r3.1, (), ()), r10, r600194))

noncomputable def annd21_0 (G : Tree → Option ((Tree))) : Ann := .none
noncomputable def Bd21 (G : Tree → Option ((Tree))) : Tree → Option ((Tree))
  | a0 =>
    if okBytes ((List.replicate 0 (0 : Int)).length + a0.body.length) 1 then
      (loopO (stepd21_0 G) (0, (a0.tag, a0.body, a0.kids), (0, (), ()), (a0.tag, (), ()), ([] : List Tree), ((List.replicate 0 (0 : Int)) ++ a0.body))).bind fun (z3, z4, z5, z6) =>
        some (Tree.node z4.1 z5 z6)
    else none

noncomputable def annd21 (G : Tree → Option ((Tree))) : Ann := (.seq .none (.seq .none (.seq (.seq .none (.seq (.cut (cutEnt ld21_0 od21_0 (loopO (stepd21_0 G)))) .none)) .none)))
theorem eqd21_0 (G : Sd21.inT → Option Sd21.outT) (hG : CallsL Go.Proofs.Try.prog 21 Sd21 G) : ∀ s : ld21_0.T, exec dtab (ofL ((21, funEntL Sd21 true G) :: Ed4)) 31 (Code.at' [1, 1, 0, 1, 0, 0] bodyd21) (annd21_0 G) (fun e st => loopEnd (l := ld21_0) (outs := od21_0) e st) (ld21_0.enc s) = stepd21_0 G s := by
  rintro ⟨t4, r1, r2, r3, r600194, r10⟩
  kernel_rfl
theorem okd21_0 (G : Sd21.inT → Option Sd21.outT) (hG : CallsL Go.Proofs.Try.prog 21 Sd21 G) : LOk Go.Proofs.Try.prog 31 (cutEnt ld21_0 od21_0 (loopO (stepd21_0 G))) (Code.at' [1, 1, 0, 1, 0] bodyd21) := by
  have e : Code.at' [1, 1, 0, 1, 0] bodyd21 = .loop (Code.at' [1, 1, 0, 1, 0, 0] bodyd21) := by kernel_rfl
  rw [e]
  refine loop_ok (cd21 G hG) 31 rfl rfl (annOk_of_cuts ?_) (eqd21_0 G hG)
  intro x hx
  exact absurd hx (by show x ∉ ([] : List (List Nat × LEnt)); simp)

theorem eqd21 (G : Sd21.inT → Option Sd21.outT) (hG : CallsL Go.Proofs.Try.prog 21 Sd21 G) : ∀ x : Sd21.inT, exec dtab (ofL ((21, funEntL Sd21 true G) :: Ed4)) 31 bodyd21 (annd21 G) (finL dtab Sd21) (Sd21.inp.enc x) = Bd21 G x := by
  intro x
  kernel_rfl
theorem bcallsd21 (G : Sd21.inT → Option Sd21.outT) (hG : CallsL Go.Proofs.Try.prog 21 Sd21 G) : CallsL Go.Proofs.Try.prog 21 Sd21 (Bd21 G) := by
  refine fun_callsL (fn := Go.Proofs.Try.f21) (c := bodyd21) (ann := (annd21 G)) (cd21 G hG) (by kernel_rfl) (by kernel_rfl) (by kernel_rfl) (by kernel_rfl) (by kernel_rfl) (annOk_of_cuts ?_) (eqd21 G hG)
  have hc : Ann.cuts (annd21 G) = [([1, 1, 0, 1, 0], (cutEnt ld21_0 od21_0 (loopO (stepd21_0 G))))] := by kernel_rfl
  rw [hc]
  intro x hx
  simp only [List.mem_cons, List.not_mem_nil, or_false] at hx
  rcases hx with rfl
  · have e : Code.at' [1, 1, 0, 1, 0] bodyd21 = Code.at' [1, 1, 0, 1, 0] bodyd21 := by kernel_rfl
    rw [e]; exact okd21_0 G hG

noncomputable def FRd21 : Nat → Tree → Option ((Tree))
  | 0 => fun _ => none
  | k + 1 => Bd21 (FRd21 k)
theorem rcallsd21 : ∀ k, CallsL Go.Proofs.Try.prog 21 Sd21 (FRd21 k)
  | 0 => fun _ _ _ _ _ _ _ _ h => by cases h
  | k + 1 => bcallsd21 (FRd21 k) (rcallsd21 k)
noncomputable def Fd21 (x : Tree) : Option ((Tree)) := FRd21 (Tree.rank x + 1) x
theorem callsd21 : CallsL Go.Proofs.Try.prog 21 Sd21 Fd21 := fun us x y w fp β h1 h2 h3 h4 => rcallsd21 _ us x y w fp β h1 h2 h3 h4
theorem entd21 : EntOk Go.Proofs.Try.prog 21 (funEntL Sd21 true Fd21) := fun_okL (fn := Go.Proofs.Try.f21) (c := bodyd21) (by kernel_rfl) (by kernel_rfl) (by kernel_rfl) (by kernel_rfl) callsd21
noncomputable def Ed21 : List (Nat × Ent) := (21, (funEntL Sd21 true Fd21)) :: Ed4
theorem Ed21_ok : EntsOk Go.Proofs.Try.prog (ofL Ed21) := .cons entd21 Ed4_ok

/-! ### barbican/der.look -/
noncomputable def bodyd46 : Code := (Go.Proofs.Try.f46.body).getD .skip
abbrev Sd46 : FL := ⟨⟨[], [.env 0 (.c (.fzp .item)), .env 1 (.c (.int .i64))], []⟩, 2, [(.ret, ⟨[], [], []⟩), (.panic 79 0, ⟨[], [], []⟩)], [], false⟩
noncomputable def cd46 (G : Sd46.inT → Option Sd46.outT) (hG : CallsL Go.Proofs.Try.prog 46 Sd46 G) : Ctx Go.Proofs.Try.prog := ⟨dtab, ofL ((46, funEntL Sd46 true G) :: Ed21), dtabOk, .cons (fun_okL (fn := Go.Proofs.Try.f46) (c := bodyd46) (by kernel_rfl) (by kernel_rfl) (by kernel_rfl) (by kernel_rfl) hG) Ed21_ok, ddep, dord⟩
abbrev ld46_0 : Lay := ⟨[], [.env 0 (.c (.fzp (.pair (.int .u8) (.pair (.sl (.int .u8)) (.sl .item))))), .env 1 (.c (.int .i64)), .env 52 (.c (.int .i64)), .env 53 (.c (.int .i64))], []⟩
abbrev od46_0 : List (AExit × Lay) := [(.panic 79 0, ⟨[], [], []⟩), (.exit 1, ⟨[], [], []⟩)]
noncomputable def stepd46_0 (G : Tree × Int → Option ((Unit) ⊕ (Int × (Unit)))) : (Int × ((List Int) × (List Tree))) × Int × Int × Int → Option (((Int × ((List Int) × (List Tree))) × Int × Int × Int) ⊕ ((Int × (Unit)) ⊕ (Unit)))
  | (t0, t1, t52, t53) =>
    if (decide (t53 < t52)) = true then
      if (0 : Int) ≤ t53 ∧ t53 < (t0.2.2.length : Int) then
        (G ((Tree.node (t0.2.2.getD t53.toNat (DT.dflt .item)).tag (t0.2.2.getD t53.toNat (DT.dflt .item)).body (t0.2.2.getD t53.toNat (DT.dflt .item)).kids), (IntKind.i64.wrap (t1 + 1)))).bind fun
          | (.inl _) =>
            some (.inl ((t0.1, (t0.2.1, t0.2.2)), t1, t52, (IntKind.i64.wrap (t53 + 1))))
          | (.inr (e6, _)) =>
            some (.inr (.inl (e6, ())))
      else none
    else
      some (.inr (.inr ()))

noncomputable def annd46_0 (G : Tree × Int → Option ((Unit) ⊕ (Int × (Unit)))) : Ann := .none
noncomputable def Bd46 (G : Tree × Int → Option ((Unit) ⊕ (Int × (Unit)))) : Tree × Int → Option ((Unit) ⊕ (Int × (Unit)))
  | (a0, a1) =>
    if (decide (a1 > 16)) = true then
      (Fd41 125).bind fun (e1, _) =>
        some (.inr (e1, ()))
    else
      if ((bitsAnd .u8 a0.tag 31) == 31) = true then
        (Fd41 123).bind fun (e2, _) =>
          some (.inr (e2, ()))
      else
        (Fd58 a0.tag).bind fun y3 =>
          if y3 = true then
            if (decide ((a0.body.length : Int) > 0)) = false then
              (Fd58 a0.tag).bind fun y4 =>
                if (!y4) = true then
                  if (decide ((a0.kids.length : Int) > 0)) = true then
                    (Fd41 127).bind fun (e5, _) =>
                      some (.inr (e5, ()))
                  else
                    (loopO (stepd46_0 G) ((a0.tag, (a0.body, a0.kids)), a1, (a0.kids.length : Int), 0)).bind fun
                      | (.inl (e7, _)) =>
                        some (.inr (e7, ()))
                      | (.inr _) =>
                        some (.inl ())
                else
                  (loopO (stepd46_0 G) ((a0.tag, (a0.body, a0.kids)), a1, (a0.kids.length : Int), 0)).bind fun
                    | (.inl (e8, _)) =>
                      some (.inr (e8, ()))
                    | (.inr _) =>
                      some (.inl ())
            else
              (Fd41 127).bind fun (e9, _) =>
                some (.inr (e9, ()))
          else
            (Fd58 a0.tag).bind fun y10 =>
              if (!y10) = true then
                if (decide ((a0.kids.length : Int) > 0)) = true then
                  (Fd41 127).bind fun (e11, _) =>
                    some (.inr (e11, ()))
                else
                  (loopO (stepd46_0 G) ((a0.tag, (a0.body, a0.kids)), a1, (a0.kids.length : Int), 0)).bind fun
                    | (.inl (e12, _)) =>
                      some (.inr (e12, ()))
                    | (.inr _) =>
                      some (.inl ())
              else
                (loopO (stepd46_0 G) ((a0.tag, (a0.body, a0.kids)), a1, (a0.kids.length : Int), 0)).bind fun
                  | (.inl (e13, _)) =>
                    some (.inr (e13, ()))
                  | (.inr _) =>
                    some (.inl ())

noncomputable def annd46 (G : Tree × Int → Option ((Unit) ⊕ (Int × (Unit)))) : Ann := (.seq .none (.seq .none (.seq (.cut (cutEnt ld46_0 od46_0 (loopO (stepd46_0 G)))) .none)))
theorem eqd46_0 (G : Sd46.inT → Option Sd46.outT) (hG : CallsL Go.Proofs.Try.prog 46 Sd46 G) : ∀ s : ld46_0.T, exec dtab (ofL ((46, funEntL Sd46 true G) :: Ed21)) 66 (Code.at' [1, 1, 0, 0] bodyd46) (annd46_0 G) (fun e st => loopEnd (l := ld46_0) (outs := od46_0) e st) (ld46_0.enc s) = stepd46_0 G s := by
  rintro ⟨t0, t1, t52, t53⟩
  kernel_rfl
theorem okd46_0 (G : Sd46.inT → Option Sd46.outT) (hG : CallsL Go.Proofs.Try.prog 46 Sd46 G) : LOk Go.Proofs.Try.prog 66 (cutEnt ld46_0 od46_0 (loopO (stepd46_0 G))) (Code.at' [1, 1, 0] bodyd46) := by
  have e : Code.at' [1, 1, 0] bodyd46 = .loop (Code.at' [1, 1, 0, 0] bodyd46) := by kernel_rfl
  rw [e]
  refine loop_ok (cd46 G hG) 66 rfl rfl (annOk_of_cuts ?_) (eqd46_0 G hG)
  intro x hx
  exact absurd hx (by show x ∉ ([] : List (List Nat × LEnt)); simp)

theorem eqd46 (G : Sd46.inT → Option Sd46.outT) (hG : CallsL Go.Proofs.Try.prog 46 Sd46 G) : ∀ x : Sd46.inT, exec dtab (ofL ((46, funEntL Sd46 true G) :: Ed21)) 66 bodyd46 (annd46 G) (finL dtab Sd46) (Sd46.inp.enc x) = Bd46 G x := by
  rintro ⟨a0, a1⟩
  kernel_rfl
theorem bcallsd46 (G : Sd46.inT → Option Sd46.outT) (hG : CallsL Go.Proofs.Try.prog 46 Sd46 G) : CallsL Go.Proofs.Try.prog 46 Sd46 (Bd46 G) := by
  refine fun_callsL (fn := Go.Proofs.Try.f46) (c := bodyd46) (ann := (annd46 G)) (cd46 G hG) (by kernel_rfl) (by kernel_rfl) (by kernel_rfl) (by kernel_rfl) (by kernel_rfl) (annOk_of_cuts ?_) (eqd46 G hG)
  have hc : Ann.cuts (annd46 G) = [([1, 1, 0], (cutEnt ld46_0 od46_0 (loopO (stepd46_0 G))))] := by kernel_rfl
  rw [hc]
  intro x hx
  simp only [List.mem_cons, List.not_mem_nil, or_false] at hx
  rcases hx with rfl
  · have e : Code.at' [1, 1, 0] bodyd46 = Code.at' [1, 1, 0] bodyd46 := by kernel_rfl
    rw [e]; exact okd46_0 G hG

noncomputable def FRd46 : Nat → Tree × Int → Option ((Unit) ⊕ (Int × (Unit)))
  | 0 => fun _ => none
  | k + 1 => Bd46 (FRd46 k)
theorem rcallsd46 : ∀ k, CallsL Go.Proofs.Try.prog 46 Sd46 (FRd46 k)
  | 0 => fun _ _ _ _ _ _ _ _ h => by cases h
  | k + 1 => bcallsd46 (FRd46 k) (rcallsd46 k)
noncomputable def Fd46 (x : Tree × Int) : Option ((Unit) ⊕ (Int × (Unit))) := FRd46 (20) x
theorem callsd46 : CallsL Go.Proofs.Try.prog 46 Sd46 Fd46 := fun us x y w fp β h1 h2 h3 h4 => rcallsd46 _ us x y w fp β h1 h2 h3 h4
theorem entd46 : EntOk Go.Proofs.Try.prog 46 (funEntL Sd46 true Fd46) := fun_okL (fn := Go.Proofs.Try.f46) (c := bodyd46) (by kernel_rfl) (by kernel_rfl) (by kernel_rfl) (by kernel_rfl) callsd46
noncomputable def Ed46 : List (Nat × Ent) := (46, (funEntL Sd46 true Fd46)) :: Ed21
theorem Ed46_ok : EntsOk Go.Proofs.Try.prog (ofL Ed46) := .cons entd46 Ed21_ok

/-! ### barbican/der.size -/
noncomputable def bodyd59 : Code := (Go.Proofs.Try.f59.body).getD .skip
abbrev Sd59 : FL := ⟨⟨[], [.env 0 (.c (.int .i64))], []⟩, 1, [(.ret, ⟨[(0, .full 1)], [.reg 1 (.row 5 .u8)], [(1, .env 0 0)]⟩)], [.tmp 2], false⟩
noncomputable def cd59 : Ctx Go.Proofs.Try.prog := ⟨dtab, ofL Ed46, dtabOk, Ed46_ok, ddep, dord⟩
noncomputable def Fd59 : Int → Option ((List Int))
  | a0 =>
    if (decide (a0 < 128)) = true then
      some ((List.replicate 1 (0 : Int)).set 0 (IntKind.u8.wrap a0))
    else
      if (decide (a0 < 256)) = true then
        let f1 : List Int := (((List.replicate 2 (0 : Int)).set 0 129).set 1 (IntKind.u8.wrap a0))
        some f1
      else
        if (decide (a0 < 65536)) = true then
          let f2 : List Int := ((((List.replicate 3 (0 : Int)).set 0 130).set 1 (IntKind.u8.wrap (shrI .i64 a0 8))).set 2 (IntKind.u8.wrap a0))
          some f2
        else
          let f3 : List Int := (((((List.replicate 4 (0 : Int)).set 0 131).set 1 (IntKind.u8.wrap (shrI .i64 a0 16))).set 2 (IntKind.u8.wrap (shrI .i64 a0 8))).set 3 (IntKind.u8.wrap a0))
          some f3

noncomputable def annd59 : Ann := .none
theorem eqd59 : ∀ x : Sd59.inT, exec dtab (ofL Ed46) 33 bodyd59 annd59 (finL dtab Sd59) (Sd59.inp.enc x) = Fd59 x := by
  intro x
  kernel_rfl
theorem callsd59 : CallsL Go.Proofs.Try.prog 59 Sd59 Fd59 := by
  refine fun_callsL (fn := Go.Proofs.Try.f59) (c := bodyd59) (ann := annd59) cd59 (by kernel_rfl) (by kernel_rfl) (by kernel_rfl) (by kernel_rfl) (by kernel_rfl) (annOk_of_cuts ?_) eqd59
  intro x hx
  exact absurd hx (by show x ∉ ([] : List (List Nat × LEnt)); simp)

theorem entd59 : EntOk Go.Proofs.Try.prog 59 (funEntL Sd59 true Fd59) := fun_okL (fn := Go.Proofs.Try.f59) (c := bodyd59) (by kernel_rfl) (by kernel_rfl) (by kernel_rfl) (by kernel_rfl) callsd59
noncomputable def Ed59 : List (Nat × Ent) := (59, (funEntL Sd59 true Fd59)) :: Ed46
theorem Ed59_ok : EntsOk Go.Proofs.Try.prog (ofL Ed59) := .cons entd59 Ed46_ok

/-! ### barbican/der.write -/
noncomputable def bodyd47 : Code := (Go.Proofs.Try.f47.body).getD .skip
abbrev Sd47 : FL := ⟨⟨[(0, .full 1000000)], [.reg 1000000 (.row 5 .u8), .env 1 (.c (.fzp .item))], [(1000000, .env 0 0)]⟩, 2, [(.ret, ⟨[(0, .full 1)], [.reg 1 (.row 5 .u8)], [(1, .env 0 0)]⟩), (.panic 79 0, ⟨[], [], []⟩)], [.tmp 4], false⟩
noncomputable def cd47 (G : Sd47.inT → Option Sd47.outT) (hG : CallsL Go.Proofs.Try.prog 47 Sd47 G) : Ctx Go.Proofs.Try.prog := ⟨dtab, ofL ((47, funEntL Sd47 true G) :: Ed59), dtabOk, .cons (fun_okL (fn := Go.Proofs.Try.f47) (c := bodyd47) (by kernel_rfl) (by kernel_rfl) (by kernel_rfl) (by kernel_rfl) hG) Ed59_ok, ddep, dord⟩
abbrev ld47_0 : Lay := ⟨[(0, .full 1000000), (5, .full 5)], [.env 1 (.c (.fzp (.pair (.int .u8) (.pair (.sl (.int .u8)) (.sl .item))))), .env 20 (.c (.int .i64)), .env 21 (.c (.int .i64)), .reg 1000000 (.row 5 .u8), .reg 5 (.row 5 .u8)], [(5, .env 5 0)]⟩
abbrev od47_0 : List (AExit × Lay) := [(.panic 79 0, ⟨[], [], []⟩), (.exit 0, ⟨[(0, .full 1000000), (5, .full 5)], [.env 1 (.c (.fzp (.pair (.int .u8) (.pair (.sl (.int .u8)) (.sl .item))))), .reg 1000000 (.row 5 .u8), .reg 5 (.row 5 .u8)], [(5, .env 5 0)]⟩)]
noncomputable def stepd47_0 (G : List Int × Tree → Option ((List Int) ⊕ (Int × (Unit)))) : (Int × ((List Int) × (List Tree))) × Int × Int × List Int × List Int → Option (((Int × ((List Int) × (List Tree))) × Int × Int × List Int × List Int) ⊕ ((Int × (Unit)) ⊕ ((Int × ((List Int) × (List Tree))) × List Int × List Int)))
  | (t1, t20, t21, r1000000, r5) =>
    if (decide (t21 < t20)) = true then
      if (0 : Int) ≤ t21 ∧ t21 < (t1.2.2.length : Int) then
        (G (r5, (Tree.node (t1.2.2.getD t21.toNat (DT.dflt .item)).tag (t1.2.2.getD t21.toNat (DT.dflt .item)).body (t1.2.2.getD t21.toNat (DT.dflt .item)).kids))).bind fun
          | (.inl y2) =>
            some (.inl ((t1.1, (t1.2.1, t1.2.2)), t20, (IntKind.i64.wrap (t21 + 1)), r1000000, y2))
          | (.inr (e3, _)) =>
            some (.inr (.inl (e3, ())))
      else none
    else
      some (.inr (.inr ((t1.1, (t1.2.1, t1.2.2)), r1000000, r5)))

noncomputable def annd47_0 (G : List Int × Tree → Option ((List Int) ⊕ (Int × (Unit)))) : Ann := .none
noncomputable def Bd47 (G : List Int × Tree → Option ((List Int) ⊕ (Int × (Unit)))) : List Int × Tree → Option ((List Int) ⊕ (Int × (Unit)))
  | (a0, a1) =>
    (Fd58 a1.tag).bind fun y1 =>
      if y1 = true then
        (loopO (stepd47_0 G) ((a1.tag, (a1.body, a1.kids)), (a1.kids.length : Int), 0, a0, ([] : List Int))).bind fun
          | (.inl (e4, _)) =>
            some (.inr (e4, ()))
          | (.inr (z5, z6, z7)) =>
            if (decide ((z7.length : Int) > 65536)) = true then
              (Fd41 121).bind fun (e8, _) =>
                some (.inr (e8, ()))
            else
              if okBytes (z6.length + ((List.replicate 1 (0 : Int)).set 0 z5.1).length) 1 then
                (Fd59 (z7.length : Int)).bind fun y9 =>
                  if okBytes ((z6 ++ ((List.replicate 1 (0 : Int)).set 0 z5.1)).length + y9.length) 1 then
                    if okBytes (((z6 ++ ((List.replicate 1 (0 : Int)).set 0 z5.1)) ++ y9).length + z7.length) 1 then
                      let f10 : List Int := (((z6 ++ ((List.replicate 1 (0 : Int)).set 0 z5.1)) ++ y9) ++ z7)
                      if (decide ((f10.length : Int) > 65536)) = true then
                        (Fd41 121).bind fun (e11, _) =>
                          some (.inr (e11, ()))
                      else
                        some (.inl f10)
                    else none
                  else none
              else none
      else
        if (decide ((a1.body.length : Int) > 65536)) = true then
          (Fd41 121).bind fun (e12, _) =>
            some (.inr (e12, ()))
        else
          if okBytes (a0.length + ((List.replicate 1 (0 : Int)).set 0 a1.tag).length) 1 then
            (Fd59 (a1.body.length : Int)).bind fun y13 =>
              if okBytes ((a0 ++ ((List.replicate 1 (0 : Int)).set 0 a1.tag)).length + y13.length) 1 then
                if okBytes (((a0 ++ ((List.replicate 1 (0 : Int)).set 0 a1.tag)) ++ y13).length + a1.body.length) 1 then
                  let f14 : List Int := (((a0 ++ ((List.replicate 1 (0 : Int)).set 0 a1.tag)) ++ y13) ++ a1.body)
                  if (decide ((f14.length : Int) > 65536)) = true then
                    (Fd41 121).bind fun (e15, _) =>
                      some (.inr (e15, ()))
                  else
                    some (.inl f14)
                else none
              else none
          else none

noncomputable def annd47 (G : List Int × Tree → Option ((List Int) ⊕ (Int × (Unit)))) : Ann := (.seq .none (.seq .none (.seq (.seq .none (.seq (.seq .none (.seq .none (.seq (.cut (cutEnt ld47_0 od47_0 (loopO (stepd47_0 G)))) .none))) .none)) .none)))
theorem eqd47_0 (G : Sd47.inT → Option Sd47.outT) (hG : CallsL Go.Proofs.Try.prog 47 Sd47 G) : ∀ s : ld47_0.T, exec dtab (ofL ((47, funEntL Sd47 true G) :: Ed59)) 56 (Code.at' [1, 1, 0, 1, 0, 1, 1, 0, 0] bodyd47) (annd47_0 G) (fun e st => loopEnd (l := ld47_0) (outs := od47_0) e st) (ld47_0.enc s) = stepd47_0 G s := by
  rintro ⟨t1, t20, t21, r1000000, r5⟩
  kernel_rfl
theorem okd47_0 (G : Sd47.inT → Option Sd47.outT) (hG : CallsL Go.Proofs.Try.prog 47 Sd47 G) : LOk Go.Proofs.Try.prog 56 (cutEnt ld47_0 od47_0 (loopO (stepd47_0 G))) (Code.at' [1, 1, 0, 1, 0, 1, 1, 0] bodyd47) := by
  have e : Code.at' [1, 1, 0, 1, 0, 1, 1, 0] bodyd47 = .loop (Code.at' [1, 1, 0, 1, 0, 1, 1, 0, 0] bodyd47) := by kernel_rfl
  rw [e]
  refine loop_ok (cd47 G hG) 56 rfl rfl (annOk_of_cuts ?_) (eqd47_0 G hG)
  intro x hx
  exact absurd hx (by show x ∉ ([] : List (List Nat × LEnt)); simp)

theorem eqd47 (G : Sd47.inT → Option Sd47.outT) (hG : CallsL Go.Proofs.Try.prog 47 Sd47 G) : ∀ x : Sd47.inT, exec dtab (ofL ((47, funEntL Sd47 true G) :: Ed59)) 56 bodyd47 (annd47 G) (finL dtab Sd47) (Sd47.inp.enc x) = Bd47 G x := by
  rintro ⟨a0, a1⟩
  kernel_rfl
theorem bcallsd47 (G : Sd47.inT → Option Sd47.outT) (hG : CallsL Go.Proofs.Try.prog 47 Sd47 G) : CallsL Go.Proofs.Try.prog 47 Sd47 (Bd47 G) := by
  refine fun_callsL (fn := Go.Proofs.Try.f47) (c := bodyd47) (ann := (annd47 G)) (cd47 G hG) (by kernel_rfl) (by kernel_rfl) (by kernel_rfl) (by kernel_rfl) (by kernel_rfl) (annOk_of_cuts ?_) (eqd47 G hG)
  have hc : Ann.cuts (annd47 G) = [([1, 1, 0, 1, 0, 1, 1, 0], (cutEnt ld47_0 od47_0 (loopO (stepd47_0 G))))] := by kernel_rfl
  rw [hc]
  intro x hx
  simp only [List.mem_cons, List.not_mem_nil, or_false] at hx
  rcases hx with rfl
  · have e : Code.at' [1, 1, 0, 1, 0, 1, 1, 0] bodyd47 = Code.at' [1, 1, 0, 1, 0, 1, 1, 0] bodyd47 := by kernel_rfl
    rw [e]; exact okd47_0 G hG

noncomputable def FRd47 : Nat → List Int × Tree → Option ((List Int) ⊕ (Int × (Unit)))
  | 0 => fun _ => none
  | k + 1 => Bd47 (FRd47 k)
theorem rcallsd47 : ∀ k, CallsL Go.Proofs.Try.prog 47 Sd47 (FRd47 k)
  | 0 => fun _ _ _ _ _ _ _ _ h => by cases h
  | k + 1 => bcallsd47 (FRd47 k) (rcallsd47 k)
noncomputable def Fd47 (x : List Int × Tree) : Option ((List Int) ⊕ (Int × (Unit))) := FRd47 (Tree.rank x.2 + 1) x
theorem callsd47 : CallsL Go.Proofs.Try.prog 47 Sd47 Fd47 := fun us x y w fp β h1 h2 h3 h4 => rcallsd47 _ us x y w fp β h1 h2 h3 h4
theorem entd47 : EntOk Go.Proofs.Try.prog 47 (funEntL Sd47 true Fd47) := fun_okL (fn := Go.Proofs.Try.f47) (c := bodyd47) (by kernel_rfl) (by kernel_rfl) (by kernel_rfl) (by kernel_rfl) callsd47
noncomputable def Ed47 : List (Nat × Ent) := (47, (funEntL Sd47 true Fd47)) :: Ed59
theorem Ed47_ok : EntsOk Go.Proofs.Try.prog (ofL Ed47) := .cons entd47 Ed59_ok

/-! ### barbican/der.Encode -/
abbrev Sd22 : FL := ⟨⟨[], [.env 0 (.dat .item)], []⟩, 1, [(.ret, ⟨[], [.env 0 (.c (.fz (.int .u8))), .env 1 (.c (.int .i64))], []⟩)], [.cell 2 22, .cell 3 26], true⟩
noncomputable def bodyd22 : Code := (Go.Proofs.Try.f22.body).getD .skip
noncomputable def oad22 : Array Oper := opsOf (Code.at' [1, 0] bodyd22)
theorem atd22 : bodyd22 = .seq (Code.at' [0] bodyd22) (.seq (.region 1 oad22 false) (Code.at' [1, 1] bodyd22)) := by kernel_rfl
abbrev SMd22 : FL := ⟨⟨[(2, .ptr 1000001 0 1), (3, .ptr 1000000 0 1)], [.env 1 (.c (.fzp .item)), .reg 1000000 (.cells [.int .i64]), .reg 1000001 (.cells [.fz (.int .u8)])], [(1000000, .env 3 0), (1000001, .env 2 0)]⟩, 4, [(.ret, ⟨[], [.env 0 (.c (.fz (.int .u8))), .env 1 (.c (.int .i64))], []⟩)], [.cell 2 22, .cell 3 26], true⟩
noncomputable def cd22 : Ctx Go.Proofs.Try.prog := ⟨dtab, ofL Ed47, dtabOk, Ed47_ok, ddep, dord⟩
noncomputable def FMd22 : Tree × Int × List Int → Option (List Int × Int) := fun (i, e, b) =>
    (Fd46 (Tree.node i.tag i.body i.kids, 1)).bind fun
      | .inr (n, _) => (FPd45 n (e, b)).bind fun (e', b') => some (b', e')
      | .inl _ => (Fd47 ([], Tree.node i.tag i.body i.kids)).bind fun
        | .inr (n, _) => (FPd45 n (e, b)).bind fun (e', b') => some (b', e')
        | .inl out => some (out, 0)
noncomputable def Fd22 : Tree → Option (List Int × Int) := fun (i : Tree) => (FMd22 (Tree.node i.tag i.body i.kids, 0, [])).bind fun (b, e) => some (b, e)
theorem eqMd22 : ∀ x, exec dtab (ofL Ed47) 7 (Code.at' [1, 1] bodyd22) .none (finD dtab SMd22 [3, 2] (SMd22.inp.enc x) (funEntL Sd45 false FRd45) 79 (fun n => funEntL Sd45 false (FPd45 n))) (SMd22.inp.enc x) = FMd22 x := by
  rintro ⟨i, e, b⟩
  kernel_rfl
theorem eqd22 : ∀ x, deferF dtab (ofL Ed47) 7 (Code.at' [0] bodyd22) .none Sd22 SMd22 [1, 2, 3] 4 FMd22 x = Fd22 x := by
  intro i
  kernel_rfl
theorem callsd22 : CallsL Go.Proofs.Try.prog 22 Sd22 Fd22 :=
  defer_callsL cd22 (fn := Go.Proofs.Try.f22) (fnc := Go.Proofs.Try.f45) (A := Code.at' [0] bodyd22) (rest := Code.at' [1, 1] bodyd22) (id := 1) (ops := oad22) (cc := bodyd45) (o0 := opAt oad22 0) (o1 := opAt oad22 1) (tc := 4) (pt := 79) (cs := [3, 2]) (kn := [1, 2, 3]) (SM := SMd22) (SC := Sd45) (annA := .none) (ann := .none) (FR := FRd45) (FPn := FPd45) (FM := FMd22)
    (by kernel_rfl) (by kernel_rfl) (by kernel_rfl) (by kernel_rfl) (by kernel_rfl) (by kernel_rfl) (by kernel_rfl) (by kernel_rfl) (by kernel_rfl) (by kernel_rfl)
    (fun a w => by kernel_rfl) (fun a w vs h => defer_run (o := opAt oad22 1) (ats := #[]) (by kernel_rfl) h)
    (by kernel_rfl) (by kernel_rfl) (by kernel_rfl) (by kernel_rfl) okd45 (by kernel_rfl) (by kernel_rfl) (by kernel_rfl) (by kernel_rfl) (by kernel_rfl) (by kernel_rfl) (by kernel_rfl)
    noCuts noCuts eqMd22 eqd22
theorem entd22 : EntOk Go.Proofs.Try.prog 22 (funEntL Sd22 true Fd22) := fun_okL (fn := Go.Proofs.Try.f22) (c := bodyd22) (by kernel_rfl) (by kernel_rfl) (by kernel_rfl) (by kernel_rfl) callsd22

noncomputable def Ed22 : List (Nat × Ent) := (22, funEntL Sd22 true Fd22) :: Ed47
theorem Ed22_ok : EntsOk Go.Proofs.Try.prog (ofL Ed22) := .cons entd22 Ed47_ok

/-! ### barbican/barbicanref12.none -/
noncomputable def bodyd52 : Code := (Go.Proofs.Try.f52.body).getD .skip
abbrev Sd52 : FL := ⟨⟨[], [.env 0 (.c (.int .u8))], []⟩, 1, [(.ret, ⟨[], [.env 0 (.c (.bool))], []⟩)], [.tmp 2], false⟩
noncomputable def cd52 : Ctx Go.Proofs.Try.prog := ⟨dtab, ofL Ed22, dtabOk, Ed22_ok, ddep, dord⟩
noncomputable def Fd52 : Int → Option ((Bool))
  | a0 =>
    some ((a0.tmod 32) == 31)

noncomputable def annd52 : Ann := .none
theorem eqd52 : ∀ x : Sd52.inT, exec dtab (ofL Ed22) 6 bodyd52 annd52 (finL dtab Sd52) (Sd52.inp.enc x) = Fd52 x := by
  intro x
  kernel_rfl
theorem callsd52 : CallsL Go.Proofs.Try.prog 52 Sd52 Fd52 := by
  refine fun_callsL (fn := Go.Proofs.Try.f52) (c := bodyd52) (ann := annd52) cd52 (by kernel_rfl) (by kernel_rfl) (by kernel_rfl) (by kernel_rfl) (by kernel_rfl) (annOk_of_cuts ?_) eqd52
  intro x hx
  exact absurd hx (by show x ∉ ([] : List (List Nat × LEnt)); simp)

theorem entd52 : EntOk Go.Proofs.Try.prog 52 (funEntL Sd52 true Fd52) := fun_okL (fn := Go.Proofs.Try.f52) (c := bodyd52) (by kernel_rfl) (by kernel_rfl) (by kernel_rfl) (by kernel_rfl) callsd52
noncomputable def Ed52 : List (Nat × Ent) := (52, (funEntL Sd52 true Fd52)) :: Ed22
theorem Ed52_ok : EntsOk Go.Proofs.Try.prog (ofL Ed52) := .cons entd52 Ed22_ok

/-! ### barbican/barbicanref12.Built -/
noncomputable def bodyd54 : Code := (Go.Proofs.Try.f54.body).getD .skip
abbrev Sd54 : FL := ⟨⟨[], [.env 0 (.c (.int .u8))], []⟩, 1, [(.ret, ⟨[], [.env 0 (.c (.bool))], []⟩)], [.tmp 2], false⟩
noncomputable def cd54 : Ctx Go.Proofs.Try.prog := ⟨dtab, ofL Ed52, dtabOk, Ed52_ok, ddep, dord⟩
noncomputable def Fd54 : Int → Option ((Bool))
  | a0 =>
    some (((IntKind.u8.wrap (a0.tdiv 32)).tmod 2) == 1)

noncomputable def annd54 : Ann := .none
theorem eqd54 : ∀ x : Sd54.inT, exec dtab (ofL Ed52) 7 bodyd54 annd54 (finL dtab Sd54) (Sd54.inp.enc x) = Fd54 x := by
  intro x
  kernel_rfl
theorem callsd54 : CallsL Go.Proofs.Try.prog 54 Sd54 Fd54 := by
  refine fun_callsL (fn := Go.Proofs.Try.f54) (c := bodyd54) (ann := annd54) cd54 (by kernel_rfl) (by kernel_rfl) (by kernel_rfl) (by kernel_rfl) (by kernel_rfl) (annOk_of_cuts ?_) eqd54
  intro x hx
  exact absurd hx (by show x ∉ ([] : List (List Nat × LEnt)); simp)

theorem entd54 : EntOk Go.Proofs.Try.prog 54 (funEntL Sd54 true Fd54) := fun_okL (fn := Go.Proofs.Try.f54) (c := bodyd54) (by kernel_rfl) (by kernel_rfl) (by kernel_rfl) (by kernel_rfl) callsd54
noncomputable def Ed54 : List (Nat × Ent) := (54, (funEntL Sd54 true Fd54)) :: Ed52
theorem Ed54_ok : EntsOk Go.Proofs.Try.prog (ofL Ed54) := .cons entd54 Ed52_ok

/-! ### barbican/barbicanref12.right -/
noncomputable def bodyd48 : Code := (Go.Proofs.Try.f48.body).getD .skip
abbrev Sd48 : FL := ⟨⟨[], [.env 0 (.dat .item), .env 1 (.c (.int .i64))], []⟩, 2, [(.ret, ⟨[], [.env 0 (.c (.int .i64))], []⟩)], [.tmp 4], false⟩
noncomputable def cd48 (G : Sd48.inT → Option Sd48.outT) (hG : CallsL Go.Proofs.Try.prog 48 Sd48 G) : Ctx Go.Proofs.Try.prog := ⟨dtab, ofL ((48, funEntL Sd48 true G) :: Ed54), dtabOk, .cons (fun_okL (fn := Go.Proofs.Try.f48) (c := bodyd48) (by kernel_rfl) (by kernel_rfl) (by kernel_rfl) (by kernel_rfl) hG) Ed54_ok, ddep, dord⟩
abbrev ld48_0 : Lay := ⟨[(2, .ptr 2 0 3)], [.env 1 (.c (.int .i64)), .env 7 (.c (.int .i64)), .reg 2 (.cells [.int .u8, .fz (.int .u8), .fz .item])], [(2, .env 2 0)]⟩
abbrev od48_0 : List (AExit × Lay) := [(.ret, ⟨[], [.env 4 (.c (.int .i64))], []⟩), (.exit 0, ⟨[], [], []⟩)]
noncomputable def stepd48_0 (G : Tree × Int → Option ((Int))) : Int × Int × (Int × (List Int) × (List Tree)) → Option ((Int × Int × (Int × (List Int) × (List Tree))) ⊕ ((Int) ⊕ (Unit)))
  | (t1, t7, r2) =>
    if (decide (t7 < (r2.2.2.length : Int))) = true then
      if (0 : Int) ≤ t7 ∧ t7 < (r2.2.2.length : Int) then
        (G ((Tree.node (r2.2.2.getD t7.toNat (DT.dflt .item)).tag (r2.2.2.getD t7.toNat (DT.dflt .item)).body (r2.2.2.getD t7.toNat (DT.dflt .item)).kids), (IntKind.i64.wrap (t1 + 1)))).bind fun y3 =>
          if (y3 != 0) = true then
            some (.inr (.inl y3))
          else
            some (.inl (t1, (IntKind.i64.wrap (t7 + 1)), (r2.1, r2.2.1, r2.2.2)))
      else none
    else
      some (.inr (.inr ()))

noncomputable def annd48_0 (G : Tree × Int → Option ((Int))) : Ann := .none
noncomputable def Bd48 (G : Tree × Int → Option ((Int))) : Tree × Int → Option ((Int))
  | (a0, a1) =>
    if (decide (a1 > 16)) = true then
      some 125
    else
      (Fd52 a0.tag).bind fun y1 =>
        if y1 = true then
          some 123
        else
          (Fd54 a0.tag).bind fun y2 =>
            if y2 = true then
              if (decide ((a0.body.length : Int) > 0)) = false then
                if (!y2) = true then
                  if (decide ((a0.kids.length : Int) > 0)) = true then
                    some 127
                  else
                    (loopO (stepd48_0 G) (a1, 0, (a0.tag, a0.body, a0.kids))).bind fun
                      | (.inl z4) =>
                        some z4
                      | (.inr _) =>
                        some 0
                else
                  (loopO (stepd48_0 G) (a1, 0, (a0.tag, a0.body, a0.kids))).bind fun
                    | (.inl z5) =>
                      some z5
                    | (.inr _) =>
                      some 0
              else
                some 127
            else
              if (!y2) = true then
                if (decide ((a0.kids.length : Int) > 0)) = true then
                  some 127
                else
                  (loopO (stepd48_0 G) (a1, 0, (a0.tag, a0.body, a0.kids))).bind fun
                    | (.inl z6) =>
                      some z6
                    | (.inr _) =>
                      some 0
              else
                (loopO (stepd48_0 G) (a1, 0, (a0.tag, a0.body, a0.kids))).bind fun
                  | (.inl z7) =>
                    some z7
                  | (.inr _) =>
                    some 0

noncomputable def annd48 (G : Tree × Int → Option ((Int))) : Ann := (.seq .none (.seq .none (.seq .none (.seq .none (.seq .none (.seq .none (.seq (.seq .none (.seq (.cut (cutEnt ld48_0 od48_0 (loopO (stepd48_0 G)))) .none)) .none)))))))
theorem eqd48_0 (G : Sd48.inT → Option Sd48.outT) (hG : CallsL Go.Proofs.Try.prog 48 Sd48 G) : ∀ s : ld48_0.T, exec dtab (ofL ((48, funEntL Sd48 true G) :: Ed54)) 53 (Code.at' [1, 1, 1, 1, 1, 1, 0, 1, 0, 0] bodyd48) (annd48_0 G) (fun e st => loopEnd (l := ld48_0) (outs := od48_0) e st) (ld48_0.enc s) = stepd48_0 G s := by
  rintro ⟨t1, t7, r2⟩
  kernel_rfl
theorem okd48_0 (G : Sd48.inT → Option Sd48.outT) (hG : CallsL Go.Proofs.Try.prog 48 Sd48 G) : LOk Go.Proofs.Try.prog 53 (cutEnt ld48_0 od48_0 (loopO (stepd48_0 G))) (Code.at' [1, 1, 1, 1, 1, 1, 0, 1, 0] bodyd48) := by
  have e : Code.at' [1, 1, 1, 1, 1, 1, 0, 1, 0] bodyd48 = .loop (Code.at' [1, 1, 1, 1, 1, 1, 0, 1, 0, 0] bodyd48) := by kernel_rfl
  rw [e]
  refine loop_ok (cd48 G hG) 53 rfl rfl (annOk_of_cuts ?_) (eqd48_0 G hG)
  intro x hx
  exact absurd hx (by show x ∉ ([] : List (List Nat × LEnt)); simp)

theorem eqd48 (G : Sd48.inT → Option Sd48.outT) (hG : CallsL Go.Proofs.Try.prog 48 Sd48 G) : ∀ x : Sd48.inT, exec dtab (ofL ((48, funEntL Sd48 true G) :: Ed54)) 53 bodyd48 (annd48 G) (finL dtab Sd48) (Sd48.inp.enc x) = Bd48 G x := by
  rintro ⟨a0, a1⟩
  kernel_rfl
theorem bcallsd48 (G : Sd48.inT → Option Sd48.outT) (hG : CallsL Go.Proofs.Try.prog 48 Sd48 G) : CallsL Go.Proofs.Try.prog 48 Sd48 (Bd48 G) := by
  refine fun_callsL (fn := Go.Proofs.Try.f48) (c := bodyd48) (ann := (annd48 G)) (cd48 G hG) (by kernel_rfl) (by kernel_rfl) (by kernel_rfl) (by kernel_rfl) (by kernel_rfl) (annOk_of_cuts ?_) (eqd48 G hG)
  have hc : Ann.cuts (annd48 G) = [([1, 1, 1, 1, 1, 1, 0, 1, 0], (cutEnt ld48_0 od48_0 (loopO (stepd48_0 G))))] := by kernel_rfl
  rw [hc]
  intro x hx
  simp only [List.mem_cons, List.not_mem_nil, or_false] at hx
  rcases hx with rfl
  · have e : Code.at' [1, 1, 1, 1, 1, 1, 0, 1, 0] bodyd48 = Code.at' [1, 1, 1, 1, 1, 1, 0, 1, 0] bodyd48 := by kernel_rfl
    rw [e]; exact okd48_0 G hG

noncomputable def FRd48 : Nat → Tree × Int → Option ((Int))
  | 0 => fun _ => none
  | k + 1 => Bd48 (FRd48 k)
theorem rcallsd48 : ∀ k, CallsL Go.Proofs.Try.prog 48 Sd48 (FRd48 k)
  | 0 => fun _ _ _ _ _ _ _ _ h => by cases h
  | k + 1 => bcallsd48 (FRd48 k) (rcallsd48 k)
noncomputable def Fd48 (x : Tree × Int) : Option ((Int)) := FRd48 (20) x
theorem callsd48 : CallsL Go.Proofs.Try.prog 48 Sd48 Fd48 := fun us x y w fp β h1 h2 h3 h4 => rcallsd48 _ us x y w fp β h1 h2 h3 h4
theorem entd48 : EntOk Go.Proofs.Try.prog 48 (funEntL Sd48 true Fd48) := fun_okL (fn := Go.Proofs.Try.f48) (c := bodyd48) (by kernel_rfl) (by kernel_rfl) (by kernel_rfl) (by kernel_rfl) callsd48
noncomputable def Ed48 : List (Nat × Ent) := (48, (funEntL Sd48 true Fd48)) :: Ed54
theorem Ed48_ok : EntsOk Go.Proofs.Try.prog (ofL Ed48) := .cons entd48 Ed54_ok

/-! ### barbican/barbicanref12.head -/
noncomputable def bodyd60 : Code := (Go.Proofs.Try.f60.body).getD .skip
abbrev Sd60 : FL := ⟨⟨[], [.env 0 (.c (.int .u8)), .env 1 (.c (.int .i64))], []⟩, 2, [(.ret, ⟨[(0, .full 1)], [.reg 1 (.row 5 .u8)], [(1, .env 0 0)]⟩)], [.tmp 4], false⟩
noncomputable def cd60 : Ctx Go.Proofs.Try.prog := ⟨dtab, ofL Ed48, dtabOk, Ed48_ok, ddep, dord⟩
noncomputable def Fd60 : Int × Int → Option ((List Int))
  | (a0, a1) =>
    if (decide (a1 < 128)) = true then
      let f1 : List Int := (((List.replicate 2 (0 : Int)).set 0 a0).set 1 (IntKind.u8.wrap a1))
      some f1
    else
      if (decide (a1 < 256)) = true then
        let f2 : List Int := ((((List.replicate 3 (0 : Int)).set 0 a0).set 1 129).set 2 (IntKind.u8.wrap a1))
        some f2
      else
        if (decide (a1 < 65536)) = true then
          let f3 : List Int := (((((List.replicate 4 (0 : Int)).set 0 a0).set 1 130).set 2 (IntKind.u8.wrap (IntKind.i64.wrap (a1.tdiv 256)))).set 3 (IntKind.u8.wrap (a1.tmod 256)))
          some f3
        else
          let x4 : Int := (IntKind.u8.wrap ((IntKind.i64.wrap (a1.tdiv 256)).tmod 256))
          let f5 : List Int := ((((((List.replicate 5 (0 : Int)).set 0 a0).set 1 131).set 2 (IntKind.u8.wrap (IntKind.i64.wrap (a1.tdiv 65536)))).set 3 x4).set 4 (IntKind.u8.wrap (a1.tmod 256)))
          some f5

noncomputable def annd60 : Ann := .none
theorem eqd60 : ∀ x : Sd60.inT, exec dtab (ofL Ed48) 42 bodyd60 annd60 (finL dtab Sd60) (Sd60.inp.enc x) = Fd60 x := by
  rintro ⟨a0, a1⟩
  kernel_rfl
theorem callsd60 : CallsL Go.Proofs.Try.prog 60 Sd60 Fd60 := by
  refine fun_callsL (fn := Go.Proofs.Try.f60) (c := bodyd60) (ann := annd60) cd60 (by kernel_rfl) (by kernel_rfl) (by kernel_rfl) (by kernel_rfl) (by kernel_rfl) (annOk_of_cuts ?_) eqd60
  intro x hx
  exact absurd hx (by show x ∉ ([] : List (List Nat × LEnt)); simp)

theorem entd60 : EntOk Go.Proofs.Try.prog 60 (funEntL Sd60 true Fd60) := fun_okL (fn := Go.Proofs.Try.f60) (c := bodyd60) (by kernel_rfl) (by kernel_rfl) (by kernel_rfl) (by kernel_rfl) callsd60
noncomputable def Ed60 : List (Nat × Ent) := (60, (funEntL Sd60 true Fd60)) :: Ed48
theorem Ed60_ok : EntsOk Go.Proofs.Try.prog (ofL Ed60) := .cons entd60 Ed48_ok

/-! ### barbican/barbicanref12.bytes -/
noncomputable def bodyd49 : Code := (Go.Proofs.Try.f49.body).getD .skip
abbrev Sd49 : FL := ⟨⟨[], [.env 0 (.dat .item)], []⟩, 1, [(.ret, ⟨[(0, .full 1)], [.reg 1 (.row 5 .u8)], [(1, .env 0 0)]⟩)], [.tmp 2], false⟩
noncomputable def cd49 (G : Sd49.inT → Option Sd49.outT) (hG : CallsL Go.Proofs.Try.prog 49 Sd49 G) : Ctx Go.Proofs.Try.prog := ⟨dtab, ofL ((49, funEntL Sd49 true G) :: Ed60), dtabOk, .cons (fun_okL (fn := Go.Proofs.Try.f49) (c := bodyd49) (by kernel_rfl) (by kernel_rfl) (by kernel_rfl) (by kernel_rfl) hG) Ed60_ok, ddep, dord⟩
abbrev ld49_0 : Lay := ⟨[(1, .ptr 1 0 3), (3, .full 3)], [.env 5 (.c (.int .i64)), .reg 1 (.cells [.int .u8, .fz (.int .u8), .fz .item]), .reg 3 (.row 5 .u8)], [(1, .env 1 0), (3, .env 3 0)]⟩
abbrev od49_0 : List (AExit × Lay) := [(.exit 0, ⟨[(1, .ptr 1 0 3), (3, .full 3)], [.reg 1 (.cells [.int .u8, .fz (.int .u8), .fz .item]), .reg 3 (.row 5 .u8)], [(1, .env 1 0), (3, .env 3 0)]⟩)]
noncomputable def stepd49_0 (G : Tree → Option ((List Int))) : Int × (Int × (List Int) × (List Tree)) × List Int → Option ((Int × (Int × (List Int) × (List Tree)) × List Int) ⊕ (((Int × (List Int) × (List Tree)) × List Int)))
  | (t5, r1, r3) =>
    if (decide (t5 < (r1.2.2.length : Int))) = true then
      if (decide ((r3.length : Int) ≤ 65536)) = true then
        if (0 : Int) ≤ t5 ∧ t5 < (r1.2.2.length : Int) then
          (G (Tree.node (r1.2.2.getD t5.toNat (DT.dflt .item)).tag (r1.2.2.getD t5.toNat (DT.dflt .item)).body (r1.2.2.getD t5.toNat (DT.dflt .item)).kids)).bind fun y2 =>
            if okBytes (r3.length + y2.length) 1 then
              some (.inl ((IntKind.i64.wrap (t5 + 1)), (r1.1, r1.2.1, r1.2.2), (r3 ++ y2)))
            else none
        else none
      else
        some (.inr ((r1.1, r1.2.1, r1.2.2), r3))
    else
      some (.inr ((r1.1, r1.2.1, r1.2.2), r3))

noncomputable def annd49_0 (G : Tree → Option ((List Int))) : Ann := .none
noncomputable def Bd49 (G : Tree → Option ((List Int))) : Tree → Option ((List Int))
  | a0 =>
    (Fd54 a0.tag).bind fun y1 =>
      if y1 = true then
        (loopO (stepd49_0 G) (0, (a0.tag, a0.body, a0.kids), ([] : List Int))).bind fun (z3, z4) =>
          if (decide ((z4.length : Int) > 65536)) = true then
            (Fd60 (z3.1, 65536)).bind fun y5 =>
              if okBytes (y5.length + z4.length) 1 then
                some (y5 ++ z4)
              else none
          else
            (Fd60 (z3.1, (z4.length : Int))).bind fun y6 =>
              if okBytes (y6.length + z4.length) 1 then
                some (y6 ++ z4)
              else none
      else
        if (decide ((a0.body.length : Int) > 65536)) = true then
          (Fd60 (a0.tag, 65536)).bind fun y7 =>
            if okBytes (y7.length + a0.body.length) 1 then
              some (y7 ++ a0.body)
            else none
        else
          (Fd60 (a0.tag, (a0.body.length : Int))).bind fun y8 =>
            if okBytes (y8.length + a0.body.length) 1 then
              some (y8 ++ a0.body)
            else none

noncomputable def annd49 (G : Tree → Option ((List Int))) : Ann := (.seq .none (.seq .none (.seq .none (.seq (.seq .none (.seq (.seq .none (.seq .none (.seq (.cut (cutEnt ld49_0 od49_0 (loopO (stepd49_0 G)))) .none))) .none)) .none))))
theorem eqd49_0 (G : Sd49.inT → Option Sd49.outT) (hG : CallsL Go.Proofs.Try.prog 49 Sd49 G) : ∀ s : ld49_0.T, exec dtab (ofL ((49, funEntL Sd49 true G) :: Ed60)) 47 (Code.at' [1, 1, 1, 0, 1, 0, 1, 1, 0, 0] bodyd49) (annd49_0 G) (fun e st => loopEnd (l := ld49_0) (outs := od49_0) e st) (ld49_0.enc s) = stepd49_0 G s := by
  rintro ⟨t5, r1, r3⟩
  kernel_rfl
theorem okd49_0 (G : Sd49.inT → Option Sd49.outT) (hG : CallsL Go.Proofs.Try.prog 49 Sd49 G) : LOk Go.Proofs.Try.prog 47 (cutEnt ld49_0 od49_0 (loopO (stepd49_0 G))) (Code.at' [1, 1, 1, 0, 1, 0, 1, 1, 0] bodyd49) := by
  have e : Code.at' [1, 1, 1, 0, 1, 0, 1, 1, 0] bodyd49 = .loop (Code.at' [1, 1, 1, 0, 1, 0, 1, 1, 0, 0] bodyd49) := by kernel_rfl
  rw [e]
  refine loop_ok (cd49 G hG) 47 rfl rfl (annOk_of_cuts ?_) (eqd49_0 G hG)
  intro x hx
  exact absurd hx (by show x ∉ ([] : List (List Nat × LEnt)); simp)

theorem eqd49 (G : Sd49.inT → Option Sd49.outT) (hG : CallsL Go.Proofs.Try.prog 49 Sd49 G) : ∀ x : Sd49.inT, exec dtab (ofL ((49, funEntL Sd49 true G) :: Ed60)) 47 bodyd49 (annd49 G) (finL dtab Sd49) (Sd49.inp.enc x) = Bd49 G x := by
  intro x
  kernel_rfl
theorem bcallsd49 (G : Sd49.inT → Option Sd49.outT) (hG : CallsL Go.Proofs.Try.prog 49 Sd49 G) : CallsL Go.Proofs.Try.prog 49 Sd49 (Bd49 G) := by
  refine fun_callsL (fn := Go.Proofs.Try.f49) (c := bodyd49) (ann := (annd49 G)) (cd49 G hG) (by kernel_rfl) (by kernel_rfl) (by kernel_rfl) (by kernel_rfl) (by kernel_rfl) (annOk_of_cuts ?_) (eqd49 G hG)
  have hc : Ann.cuts (annd49 G) = [([1, 1, 1, 0, 1, 0, 1, 1, 0], (cutEnt ld49_0 od49_0 (loopO (stepd49_0 G))))] := by kernel_rfl
  rw [hc]
  intro x hx
  simp only [List.mem_cons, List.not_mem_nil, or_false] at hx
  rcases hx with rfl
  · have e : Code.at' [1, 1, 1, 0, 1, 0, 1, 1, 0] bodyd49 = Code.at' [1, 1, 1, 0, 1, 0, 1, 1, 0] bodyd49 := by kernel_rfl
    rw [e]; exact okd49_0 G hG

noncomputable def FRd49 : Nat → Tree → Option ((List Int))
  | 0 => fun _ => none
  | k + 1 => Bd49 (FRd49 k)
theorem rcallsd49 : ∀ k, CallsL Go.Proofs.Try.prog 49 Sd49 (FRd49 k)
  | 0 => fun _ _ _ _ _ _ _ _ h => by cases h
  | k + 1 => bcallsd49 (FRd49 k) (rcallsd49 k)
noncomputable def Fd49 (x : Tree) : Option ((List Int)) := FRd49 (Tree.rank x + 1) x
theorem callsd49 : CallsL Go.Proofs.Try.prog 49 Sd49 Fd49 := fun us x y w fp β h1 h2 h3 h4 => rcallsd49 _ us x y w fp β h1 h2 h3 h4
theorem entd49 : EntOk Go.Proofs.Try.prog 49 (funEntL Sd49 true Fd49) := fun_okL (fn := Go.Proofs.Try.f49) (c := bodyd49) (by kernel_rfl) (by kernel_rfl) (by kernel_rfl) (by kernel_rfl) callsd49
noncomputable def Ed49 : List (Nat × Ent) := (49, (funEntL Sd49 true Fd49)) :: Ed60
theorem Ed49_ok : EntsOk Go.Proofs.Try.prog (ofL Ed49) := .cons entd49 Ed60_ok

/-! ### barbican/barbicanref12.Encode -/
noncomputable def bodyd23 : Code := (Go.Proofs.Try.f23.body).getD .skip
abbrev Sd23 : FL := ⟨⟨[], [.env 0 (.dat .item)], []⟩, 1, [(.ret, ⟨[(0, .full 3)], [.reg 3 (.row 5 .u8), .env 1 (.c (.int .i64))], [(3, .env 0 0)]⟩)], [.tmp 2, .tmp 3], false⟩
noncomputable def cd23 : Ctx Go.Proofs.Try.prog := ⟨dtab, ofL Ed49, dtabOk, Ed49_ok, ddep, dord⟩
noncomputable def Fd23 : Tree → Option ((List Int × Int))
  | a0 =>
    (Fd48 ((Tree.node a0.tag a0.body a0.kids), 1)).bind fun y1 =>
      if (y1 != 0) = true then
        some (([] : List Int), y1)
      else
        (Fd49 (Tree.node a0.tag a0.body a0.kids)).bind fun y2 =>
          if (decide ((y2.length : Int) > 65536)) = true then
            some (([] : List Int), 121)
          else
            some (y2, 0)

noncomputable def annd23 : Ann := .none
theorem eqd23 : ∀ x : Sd23.inT, exec dtab (ofL Ed49) 17 bodyd23 annd23 (finL dtab Sd23) (Sd23.inp.enc x) = Fd23 x := by
  intro x
  kernel_rfl
theorem callsd23 : CallsL Go.Proofs.Try.prog 23 Sd23 Fd23 := by
  refine fun_callsL (fn := Go.Proofs.Try.f23) (c := bodyd23) (ann := annd23) cd23 (by kernel_rfl) (by kernel_rfl) (by kernel_rfl) (by kernel_rfl) (by kernel_rfl) (annOk_of_cuts ?_) eqd23
  intro x hx
  exact absurd hx (by show x ∉ ([] : List (List Nat × LEnt)); simp)

theorem entd23 : EntOk Go.Proofs.Try.prog 23 (funEntL Sd23 true Fd23) := fun_okL (fn := Go.Proofs.Try.f23) (c := bodyd23) (by kernel_rfl) (by kernel_rfl) (by kernel_rfl) (by kernel_rfl) callsd23
noncomputable def Ed23 : List (Nat × Ent) := (23, (funEntL Sd23 true Fd23)) :: Ed49
theorem Ed23_ok : EntsOk Go.Proofs.Try.prog (ofL Ed23) := .cons entd23 Ed49_ok

/-! ### barbican/barbicanlaw12.DerWrites -/
noncomputable def bodyd5 : Code := (Go.Proofs.Try.f5.body).getD .skip
abbrev Sd5 : FL := ⟨⟨[], [.env 0 (.dat .item)], []⟩, 1, [(.ret, ⟨[], [.env 0 (.c (.bool))], []⟩)], [.tmp 2], false⟩
noncomputable def cd5 : Ctx Go.Proofs.Try.prog := ⟨dtab, ofL Ed23, dtabOk, Ed23_ok, ddep, dord⟩
noncomputable def Fd5 : Tree → Option ((Bool))
  | a0 =>
    (Fd16 (Tree.node a0.tag a0.body a0.kids)).bind fun y1 =>
      if y1 = true then
        (Fd15 ()).bind fun y2 =>
          some y2
      else
        (Fd21 (Tree.node a0.tag a0.body a0.kids)).bind fun y3 =>
          (Fd22 (Tree.node y3.tag y3.body y3.kids)).bind fun (y4, y5) =>
            (Fd23 (Tree.node a0.tag a0.body a0.kids)).bind fun (y6, y7) =>
              (Fd14 (y4, y6)).bind fun y8 =>
                (Fd12 ((Tree.node y3.tag y3.body y3.kids), (Tree.node a0.tag a0.body a0.kids))).bind fun y9 =>
                  (Fd15 ()).bind fun y10 =>
                    if y10 = true then
                      if (y5 == y7) = true then
                        if y8 = true then
                          some y9
                        else
                          some false
                      else
                        some false
                    else
                      some false

noncomputable def annd5 : Ann := .none
theorem eqd5 : ∀ x : Sd5.inT, exec dtab (ofL Ed23) 45 bodyd5 annd5 (finL dtab Sd5) (Sd5.inp.enc x) = Fd5 x := by
  intro x
  kernel_rfl
theorem callsd5 : CallsL Go.Proofs.Try.prog 5 Sd5 Fd5 := by
  refine fun_callsL (fn := Go.Proofs.Try.f5) (c := bodyd5) (ann := annd5) cd5 (by kernel_rfl) (by kernel_rfl) (by kernel_rfl) (by kernel_rfl) (by kernel_rfl) (annOk_of_cuts ?_) eqd5
  intro x hx
  exact absurd hx (by show x ∉ ([] : List (List Nat × LEnt)); simp)

theorem entd5 : EntOk Go.Proofs.Try.prog 5 (funEntL Sd5 true Fd5) := fun_okL (fn := Go.Proofs.Try.f5) (c := bodyd5) (by kernel_rfl) (by kernel_rfl) (by kernel_rfl) (by kernel_rfl) callsd5
noncomputable def Ed5 : List (Nat × Ent) := (5, (funEntL Sd5 true Fd5)) :: Ed23
theorem Ed5_ok : EntsOk Go.Proofs.Try.prog (ofL Ed5) := .cons entd5 Ed23_ok

/-! ### barbican/barbicanlaw12.DerOneForm -/
noncomputable def bodyd6 : Code := (Go.Proofs.Try.f6.body).getD .skip
abbrev Sd6 : FL := ⟨⟨[], [.env 0 (.dat .item), .env 1 (.c (.fz (.int .u8)))], []⟩, 2, [(.ret, ⟨[], [.env 0 (.c (.bool))], []⟩)], [.tmp 4], false⟩
noncomputable def cd6 : Ctx Go.Proofs.Try.prog := ⟨dtab, ofL Ed5, dtabOk, Ed5_ok, ddep, dord⟩
noncomputable def Fd6 : Tree × (List Int) → Option ((Bool))
  | (a0, a1) =>
    (Fd16 (Tree.node a0.tag a0.body a0.kids)).bind fun y1 =>
      if y1 = true then
        (Fd15 ()).bind fun y2 =>
          some y2
      else
        (Fd22 (Tree.node a0.tag a0.body a0.kids)).bind fun (y3, y4) =>
          if (y4 == 0) = true then
            (Fd11 y3).bind fun (y5, y6) =>
              (Fd12 ((Tree.node y5.tag y5.body y5.kids), (Tree.node a0.tag a0.body a0.kids))).bind fun y7 =>
                if (y6 != 0) = false then
                  if (!y7) = true then
                    some false
                  else
                    (Fd11 a1).bind fun (y8, y9) =>
                      if (y9 != 0) = true then
                        (Fd15 ()).bind fun y10 =>
                          if y10 = true then
                            if (y8.tag == 0) = true then
                              if ((y8.body.length : Int) == 0) = true then
                                some ((y8.kids.length : Int) == 0)
                              else
                                some false
                            else
                              some false
                          else
                            some false
                      else
                        (Fd22 (Tree.node y8.tag y8.body y8.kids)).bind fun (y11, y12) =>
                          (Fd15 ()).bind fun y13 =>
                            if y13 = true then
                              if (y12 == 0) = true then
                                (Fd14 (y11, a1)).bind fun y14 =>
                                  some y14
                              else
                                some false
                            else
                              some false
                else
                  some false
          else
            (Fd11 a1).bind fun (y15, y16) =>
              if (y16 != 0) = true then
                (Fd15 ()).bind fun y17 =>
                  if y17 = true then
                    if (y15.tag == 0) = true then
                      if ((y15.body.length : Int) == 0) = true then
                        some ((y15.kids.length : Int) == 0)
                      else
                        some false
                    else
                      some false
                  else
                    some false
              else
                (Fd22 (Tree.node y15.tag y15.body y15.kids)).bind fun (y18, y19) =>
                  (Fd15 ()).bind fun y20 =>
                    if y20 = true then
                      if (y19 == 0) = true then
                        (Fd14 (y18, a1)).bind fun y21 =>
                          some y21
                      else
                        some false
                    else
                      some false

noncomputable def annd6 : Ann := .none
theorem eqd6 : ∀ x : Sd6.inT, exec dtab (ofL Ed5) 80 bodyd6 annd6 (finL dtab Sd6) (Sd6.inp.enc x) = Fd6 x := by
  rintro ⟨a0, a1⟩
  kernel_rfl
theorem callsd6 : CallsL Go.Proofs.Try.prog 6 Sd6 Fd6 := by
  refine fun_callsL (fn := Go.Proofs.Try.f6) (c := bodyd6) (ann := annd6) cd6 (by kernel_rfl) (by kernel_rfl) (by kernel_rfl) (by kernel_rfl) (by kernel_rfl) (annOk_of_cuts ?_) eqd6
  intro x hx
  exact absurd hx (by show x ∉ ([] : List (List Nat × LEnt)); simp)

theorem entd6 : EntOk Go.Proofs.Try.prog 6 (funEntL Sd6 true Fd6) := fun_okL (fn := Go.Proofs.Try.f6) (c := bodyd6) (by kernel_rfl) (by kernel_rfl) (by kernel_rfl) (by kernel_rfl) callsd6
noncomputable def Ed6 : List (Nat × Ent) := (6, (funEntL Sd6 true Fd6)) :: Ed5
theorem Ed6_ok : EntsOk Go.Proofs.Try.prog (ofL Ed6) := .cons entd6 Ed5_ok

/-! ### barbican/barbicanlaw12.DerCutShort -/
noncomputable def bodyd7 : Code := (Go.Proofs.Try.f7.body).getD .skip
abbrev Sd7 : FL := ⟨⟨[], [.env 0 (.dat .item), .env 1 (.c (.int .i64)), .env 2 (.c (.fz (.int .u8)))], []⟩, 3, [(.ret, ⟨[], [.env 0 (.c (.bool))], []⟩)], [.tmp 6], false⟩
noncomputable def cd7 : Ctx Go.Proofs.Try.prog := ⟨dtab, ofL Ed6, dtabOk, Ed6_ok, ddep, dord⟩
noncomputable def Fd7 : Tree × Int × (List Int) → Option ((Bool))
  | (a0, a1, a2) =>
    (Fd16 (Tree.node a0.tag a0.body a0.kids)).bind fun y1 =>
      if y1 = true then
        (Fd15 ()).bind fun y2 =>
          some y2
      else
        (Fd22 (Tree.node a0.tag a0.body a0.kids)).bind fun (y3, y4) =>
          if (y4 != 0) = true then
            (Fd15 ()).bind fun y5 =>
              some y5
          else
            if ((y3.length : Int) == 0) = true then
              some false
            else
              if (decide (a1 < 0)) = true then
                if (y3.length : Int) ≠ 0 then
                  let x6 : Int := ((IntKind.i64.wrap (0 - (IntKind.i64.wrap (a1 + 1)))).tmod (y3.length : Int))
                  if (0 : Int) ≤ x6 ∧ x6 ≤ (y3.length : Int) then
                    (Fd11 (y3.take x6.toNat)).bind fun (y7, y8) =>
                      if okBytes ((List.replicate 0 (0 : Int)).length + y3.length) 1 then
                        if okBytes (((List.replicate 0 (0 : Int)) ++ y3).length + a2.length) 1 then
                          (Fd11 (((List.replicate 0 (0 : Int)) ++ y3) ++ a2)).bind fun (y9, y10) =>
                            let x11 : Bool := (decide ((IntKind.i64.wrap ((y3.length : Int) + (a2.length : Int))) > 65536))
                            if (y8 == 0) = false then
                              if (decide ((a2.length : Int) > 0)) = true then
                                if (!x11) = true then
                                  if (y10 != 126) = false then
                                    if x11 = true then
                                      if (y10 != 121) = true then
                                        some false
                                      else
                                        (Fd15 ()).bind fun y12 =>
                                          if y12 = true then
                                            if (decide ((a2.length : Int) > 0)) = false then
                                              some (y10 == 0)
                                            else
                                              some true
                                          else
                                            some false
                                    else
                                      (Fd15 ()).bind fun y13 =>
                                        if y13 = true then
                                          if (decide ((a2.length : Int) > 0)) = false then
                                            some (y10 == 0)
                                          else
                                            some true
                                        else
                                          some false
                                  else
                                    some false
                                else
                                  if x11 = true then
                                    if (y10 != 121) = true then
                                      some false
                                    else
                                      (Fd15 ()).bind fun y14 =>
                                        if y14 = true then
                                          if (decide ((a2.length : Int) > 0)) = false then
                                            some (y10 == 0)
                                          else
                                            some true
                                        else
                                          some false
                                  else
                                    (Fd15 ()).bind fun y15 =>
                                      if y15 = true then
                                        if (decide ((a2.length : Int) > 0)) = false then
                                          some (y10 == 0)
                                        else
                                          some true
                                      else
                                        some false
                              else
                                if x11 = true then
                                  if (y10 != 121) = true then
                                    some false
                                  else
                                    (Fd15 ()).bind fun y16 =>
                                      if y16 = true then
                                        if (decide ((a2.length : Int) > 0)) = false then
                                          some (y10 == 0)
                                        else
                                          some true
                                      else
                                        some false
                                else
                                  (Fd15 ()).bind fun y17 =>
                                    if y17 = true then
                                      if (decide ((a2.length : Int) > 0)) = false then
                                        some (y10 == 0)
                                      else
                                        some true
                                    else
                                      some false
                            else
                              some false
                        else none
                      else none
                  else none
                else none
              else
                if (y3.length : Int) ≠ 0 then
                  if (0 : Int) ≤ (a1.tmod (y3.length : Int)) ∧ (a1.tmod (y3.length : Int)) ≤ (y3.length : Int) then
                    (Fd11 (y3.take (a1.tmod (y3.length : Int)).toNat)).bind fun (y18, y19) =>
                      if okBytes ((List.replicate 0 (0 : Int)).length + y3.length) 1 then
                        if okBytes (((List.replicate 0 (0 : Int)) ++ y3).length + a2.length) 1 then
                          (Fd11 (((List.replicate 0 (0 : Int)) ++ y3) ++ a2)).bind fun (y20, y21) =>
                            let x22 : Bool := (decide ((IntKind.i64.wrap ((y3.length : Int) + (a2.length : Int))) > 65536))
                            if (y19 == 0) = false then
                              if (decide ((a2.length : Int) > 0)) = true then
                                if (!x22) = true then
                                  if (y21 != 126) = false then
                                    if x22 = true then
                                      if (y21 != 121) = true then
                                        some false
                                      else
                                        (Fd15 ()).bind fun y23 =>
                                          if y23 = true then
                                            if (decide ((a2.length : Int) > 0)) = false then
                                              some (y21 == 0)
                                            else
                                              some true
                                          else
                                            some false
                                    else
                                      (Fd15 ()).bind fun y24 =>
                                        if y24 = true then
                                          if (decide ((a2.length : Int) > 0)) = false then
                                            some (y21 == 0)
                                          else
                                            some true
                                        else
                                          some false
                                  else
                                    some false
                                else
                                  if x22 = true then
                                    if (y21 != 121) = true then
                                      some false
                                    else
                                      (Fd15 ()).bind fun y25 =>
                                        if y25 = true then
                                          if (decide ((a2.length : Int) > 0)) = false then
                                            some (y21 == 0)
                                          else
                                            some true
                                        else
                                          some false
                                  else
                                    (Fd15 ()).bind fun y26 =>
                                      if y26 = true then
                                        if (decide ((a2.length : Int) > 0)) = false then
                                          some (y21 == 0)
                                        else
                                          some true
                                      else
                                        some false
                              else
                                if x22 = true then
                                  if (y21 != 121) = true then
                                    some false
                                  else
                                    (Fd15 ()).bind fun y27 =>
                                      if y27 = true then
                                        if (decide ((a2.length : Int) > 0)) = false then
                                          some (y21 == 0)
                                        else
                                          some true
                                      else
                                        some false
                                else
                                  (Fd15 ()).bind fun y28 =>
                                    if y28 = true then
                                      if (decide ((a2.length : Int) > 0)) = false then
                                        some (y21 == 0)
                                      else
                                        some true
                                    else
                                      some false
                            else
                              some false
                        else none
                      else none
                  else none
                else none

noncomputable def annd7 : Ann := .none
theorem eqd7 : ∀ x : Sd7.inT, exec dtab (ofL Ed6) 92 bodyd7 annd7 (finL dtab Sd7) (Sd7.inp.enc x) = Fd7 x := by
  rintro ⟨a0, a1, a2⟩
  kernel_rfl
theorem callsd7 : CallsL Go.Proofs.Try.prog 7 Sd7 Fd7 := by
  refine fun_callsL (fn := Go.Proofs.Try.f7) (c := bodyd7) (ann := annd7) cd7 (by kernel_rfl) (by kernel_rfl) (by kernel_rfl) (by kernel_rfl) (by kernel_rfl) (annOk_of_cuts ?_) eqd7
  intro x hx
  exact absurd hx (by show x ∉ ([] : List (List Nat × LEnt)); simp)

theorem entd7 : EntOk Go.Proofs.Try.prog 7 (funEntL Sd7 true Fd7) := fun_okL (fn := Go.Proofs.Try.f7) (c := bodyd7) (by kernel_rfl) (by kernel_rfl) (by kernel_rfl) (by kernel_rfl) callsd7
noncomputable def Ed7 : List (Nat × Ent) := (7, (funEntL Sd7 true Fd7)) :: Ed6
theorem Ed7_ok : EntsOk Go.Proofs.Try.prog (ofL Ed7) := .cons entd7 Ed6_ok

/-! ### barbican/der.Uint -/
noncomputable def bodyd24 : Code := (Go.Proofs.Try.f24.body).getD .skip
abbrev Sd24 : FL := ⟨⟨[], [.env 0 (.dat .item)], []⟩, 1, [(.ret, ⟨[], [.env 0 (.c (.int .u64)), .env 1 (.c (.int .i64))], []⟩)], [.tmp 2, .tmp 3], false⟩
noncomputable def cd24 : Ctx Go.Proofs.Try.prog := ⟨dtab, ofL Ed7, dtabOk, Ed7_ok, ddep, dord⟩
abbrev ld24_0 : Lay := ⟨[], [.env 6 (.c (.int .u64)), .env 52 (.c (.fz (.int .u8))), .env 53 (.c (.int .i64)), .env 54 (.c (.int .i64))], []⟩
abbrev od24_0 : List (AExit × Lay) := [(.exit 0, ⟨[], [.env 6 (.c (.int .u64))], []⟩)]
noncomputable def stepd24_0 : Int × (List Int) × Int × Int → Option ((Int × (List Int) × Int × Int) ⊕ ((Int)))
  | (t6, t52, t53, t54) =>
    if (decide (t54 < t53)) = true then
      if (0 : Int) ≤ t54 ∧ t54 < (t52.length : Int) then
        let x2 : Int := (bitsOr .u64 (shlI .u64 t6 8) (IntKind.u64.wrap (t52.getD t54.toNat 0)))
        some (.inl (x2, t52, t53, (IntKind.i64.wrap (t54 + 1))))
      else none
    else
      some (.inr t6)

noncomputable def annd24_0 : Ann := .none
noncomputable def Fd24 : Tree → Option ((Int × Int))
  | a0 =>
    (Fd43 ((Tree.node a0.tag a0.body a0.kids), 2)).bind fun y1 =>
      if (y1 != 0) = true then
        some (0, y1)
      else
        if (0 : Int) ≤ (0 : Int) ∧ (0 : Int) < (a0.body.length : Int) then
          if (decide ((a0.body.getD 0 0) ≥ 128)) = false then
            if (0 : Int) ≤ (0 : Int) ∧ (0 : Int) < (a0.body.length : Int) then
              if ((a0.body.getD 0 0) == 0) = true then
                if (decide ((a0.body.length : Int) > 1)) = true then
                  if (0 : Int) ≤ (1 : Int) ∧ (1 : Int) < (a0.body.length : Int) then
                    if (decide ((a0.body.getD 1 0) < 128)) = false then
                      if (decide ((a0.body.length : Int) > 9)) = false then
                        if ((a0.body.length : Int) == 9) = true then
                          if (0 : Int) ≤ (0 : Int) ∧ (0 : Int) < (a0.body.length : Int) then
                            if ((a0.body.getD 0 0) != 0) = true then
                              some (0, 127)
                            else
                              (loopO stepd24_0 (0, a0.body, (a0.body.length : Int), 0)).bind fun z3 =>
                                some (z3, 0)
                          else none
                        else
                          (loopO stepd24_0 (0, a0.body, (a0.body.length : Int), 0)).bind fun z4 =>
                            some (z4, 0)
                      else
                        some (0, 127)
                    else
                      some (0, 127)
                  else none
                else
                  if (decide ((a0.body.length : Int) > 9)) = false then
                    if ((a0.body.length : Int) == 9) = true then
                      if (0 : Int) ≤ (0 : Int) ∧ (0 : Int) < (a0.body.length : Int) then
                        if ((a0.body.getD 0 0) != 0) = true then
                          some (0, 127)
                        else
                          (loopO stepd24_0 (0, a0.body, (a0.body.length : Int), 0)).bind fun z5 =>
                            some (z5, 0)
                      else none
                    else
                      (loopO stepd24_0 (0, a0.body, (a0.body.length : Int), 0)).bind fun z6 =>
                        some (z6, 0)
                  else
                    some (0, 127)
              else
                if (decide ((a0.body.length : Int) > 9)) = false then
                  if ((a0.body.length : Int) == 9) = true then
                    if (0 : Int) ≤ (0 : Int) ∧ (0 : Int) < (a0.body.length : Int) then
                      if ((a0.body.getD 0 0) != 0) = true then
                        some (0, 127)
                      else
                        (loopO stepd24_0 (0, a0.body, (a0.body.length : Int), 0)).bind fun z7 =>
                          some (z7, 0)
                    else none
                  else
                    (loopO stepd24_0 (0, a0.body, (a0.body.length : Int), 0)).bind fun z8 =>
                      some (z8, 0)
                else
                  some (0, 127)
            else none
          else
            some (0, 127)
        else none

noncomputable def annd24 : Ann := (.seq .none (.seq .none (.seq .none (.seq .none (.seq .none (.seq (.seq .none (.seq (.cut (cutEnt ld24_0 od24_0 (loopO (stepd24_0)))) .none)) .none))))))
theorem eqd24_0 : ∀ s : ld24_0.T, exec dtab (ofL Ed7) 65 (Code.at' [1, 1, 1, 1, 1, 0, 1, 0, 0] bodyd24) annd24_0 (fun e st => loopEnd (l := ld24_0) (outs := od24_0) e st) (ld24_0.enc s) = stepd24_0 s := by
  rintro ⟨t6, t52, t53, t54⟩
  kernel_rfl
theorem okd24_0 : LOk Go.Proofs.Try.prog 65 (cutEnt ld24_0 od24_0 (loopO stepd24_0)) (Code.at' [1, 1, 1, 1, 1, 0, 1, 0] bodyd24) := by
  have e : Code.at' [1, 1, 1, 1, 1, 0, 1, 0] bodyd24 = .loop (Code.at' [1, 1, 1, 1, 1, 0, 1, 0, 0] bodyd24) := by kernel_rfl
  rw [e]
  refine loop_ok cd24 65 rfl rfl (annOk_of_cuts ?_) eqd24_0
  intro x hx
  exact absurd hx (by show x ∉ ([] : List (List Nat × LEnt)); simp)

theorem eqd24 : ∀ x : Sd24.inT, exec dtab (ofL Ed7) 65 bodyd24 annd24 (finL dtab Sd24) (Sd24.inp.enc x) = Fd24 x := by
  intro x
  kernel_rfl
theorem callsd24 : CallsL Go.Proofs.Try.prog 24 Sd24 Fd24 := by
  refine fun_callsL (fn := Go.Proofs.Try.f24) (c := bodyd24) (ann := annd24) cd24 (by kernel_rfl) (by kernel_rfl) (by kernel_rfl) (by kernel_rfl) (by kernel_rfl) (annOk_of_cuts ?_) eqd24
  have hc : Ann.cuts annd24 = [([1, 1, 1, 1, 1, 0, 1, 0], (cutEnt ld24_0 od24_0 (loopO (stepd24_0))))] := by kernel_rfl
  rw [hc]
  intro x hx
  simp only [List.mem_cons, List.not_mem_nil, or_false] at hx
  rcases hx with rfl
  · have e : Code.at' [1, 1, 1, 1, 1, 0, 1, 0] bodyd24 = Code.at' [1, 1, 1, 1, 1, 0, 1, 0] bodyd24 := by kernel_rfl
    rw [e]; exact okd24_0

theorem entd24 : EntOk Go.Proofs.Try.prog 24 (funEntL Sd24 true Fd24) := fun_okL (fn := Go.Proofs.Try.f24) (c := bodyd24) (by kernel_rfl) (by kernel_rfl) (by kernel_rfl) (by kernel_rfl) callsd24
noncomputable def Ed24 : List (Nat × Ent) := (24, (funEntL Sd24 true Fd24)) :: Ed7
theorem Ed24_ok : EntsOk Go.Proofs.Try.prog (ofL Ed24) := .cons entd24 Ed7_ok

/-! ### barbican/der.Bool -/
noncomputable def bodyd25 : Code := (Go.Proofs.Try.f25.body).getD .skip
abbrev Sd25 : FL := ⟨⟨[], [.env 0 (.dat .item)], []⟩, 1, [(.ret, ⟨[], [.env 0 (.c (.bool)), .env 1 (.c (.int .i64))], []⟩)], [.tmp 2, .tmp 3], false⟩
noncomputable def cd25 : Ctx Go.Proofs.Try.prog := ⟨dtab, ofL Ed24, dtabOk, Ed24_ok, ddep, dord⟩
noncomputable def Fd25 : Tree → Option ((Bool × Int))
  | a0 =>
    (Fd43 ((Tree.node a0.tag a0.body a0.kids), 1)).bind fun y1 =>
      if (y1 != 0) = true then
        some (false, y1)
      else
        if ((a0.body.length : Int) != 1) = false then
          if (0 : Int) ≤ (0 : Int) ∧ (0 : Int) < (a0.body.length : Int) then
            if ((a0.body.getD 0 0) != 0) = true then
              if (0 : Int) ≤ (0 : Int) ∧ (0 : Int) < (a0.body.length : Int) then
                if ((a0.body.getD 0 0) != 255) = true then
                  some (false, 127)
                else
                  if (0 : Int) ≤ (0 : Int) ∧ (0 : Int) < (a0.body.length : Int) then
                    some (((a0.body.getD 0 0) != 0), 0)
                  else none
              else none
            else
              if (0 : Int) ≤ (0 : Int) ∧ (0 : Int) < (a0.body.length : Int) then
                some (((a0.body.getD 0 0) != 0), 0)
              else none
          else none
        else
          some (false, 127)

noncomputable def annd25 : Ann := .none
theorem eqd25 : ∀ x : Sd25.inT, exec dtab (ofL Ed24) 32 bodyd25 annd25 (finL dtab Sd25) (Sd25.inp.enc x) = Fd25 x := by
  intro x
  kernel_rfl
theorem callsd25 : CallsL Go.Proofs.Try.prog 25 Sd25 Fd25 := by
  refine fun_callsL (fn := Go.Proofs.Try.f25) (c := bodyd25) (ann := annd25) cd25 (by kernel_rfl) (by kernel_rfl) (by kernel_rfl) (by kernel_rfl) (by kernel_rfl) (annOk_of_cuts ?_) eqd25
  intro x hx
  exact absurd hx (by show x ∉ ([] : List (List Nat × LEnt)); simp)

theorem entd25 : EntOk Go.Proofs.Try.prog 25 (funEntL Sd25 true Fd25) := fun_okL (fn := Go.Proofs.Try.f25) (c := bodyd25) (by kernel_rfl) (by kernel_rfl) (by kernel_rfl) (by kernel_rfl) callsd25
noncomputable def Ed25 : List (Nat × Ent) := (25, (funEntL Sd25 true Fd25)) :: Ed24
theorem Ed25_ok : EntsOk Go.Proofs.Try.prog (ofL Ed25) := .cons entd25 Ed24_ok

/-! ### barbican/barbicanref12.Uint -/
noncomputable def bodyd26 : Code := (Go.Proofs.Try.f26.body).getD .skip
abbrev Sd26 : FL := ⟨⟨[], [.env 0 (.dat .item)], []⟩, 1, [(.ret, ⟨[], [.env 0 (.c (.int .u64)), .env 1 (.c (.int .i64))], []⟩)], [.tmp 2, .tmp 3], false⟩
noncomputable def cd26 : Ctx Go.Proofs.Try.prog := ⟨dtab, ofL Ed25, dtabOk, Ed25_ok, ddep, dord⟩
abbrev ld26_0 : Lay := ⟨[], [.env 4 (.c (.fz (.int .u8))), .env 5 (.c (.int .u64)), .env 6 (.c (.int .i64))], []⟩
abbrev od26_0 : List (AExit × Lay) := [(.exit 0, ⟨[], [.env 5 (.c (.int .u64))], []⟩)]
noncomputable def stepd26_0 : (List Int) × Int × Int → Option (((List Int) × Int × Int) ⊕ ((Int)))
  | (t4, t5, t6) =>
    if (decide (t6 < (t4.length : Int))) = true then
      if (0 : Int) ≤ t6 ∧ t6 < (t4.length : Int) then
        let x1 : Int := (IntKind.u64.wrap ((IntKind.u64.wrap (256 * t5)) + (IntKind.u64.wrap (t4.getD t6.toNat 0))))
        some (.inl (t4, x1, (IntKind.i64.wrap (t6 + 1))))
      else none
    else
      some (.inr t5)

noncomputable def annd26_0 : Ann := .none
noncomputable def Fd26 : Tree → Option ((Int × Int))
  | a0 =>
    if (a0.tag != 2) = true then
      some (0, 123)
    else
      if ((a0.body.length : Int) == 0) = false then
        if (decide ((a0.kids.length : Int) > 0)) = false then
          if (0 : Int) ≤ (0 : Int) ∧ (0 : Int) < (a0.body.length : Int) then
            if (decide ((a0.body.getD 0 0) ≥ 128)) = false then
              if (decide ((a0.body.length : Int) > 1)) = true then
                if (0 : Int) ≤ (0 : Int) ∧ (0 : Int) < (a0.body.length : Int) then
                  if ((a0.body.getD 0 0) == 0) = true then
                    if (0 : Int) ≤ (1 : Int) ∧ (1 : Int) < (a0.body.length : Int) then
                      if (decide ((a0.body.getD 1 0) < 128)) = true then
                        some (0, 127)
                      else
                        if (0 : Int) ≤ (0 : Int) ∧ (0 : Int) < (a0.body.length : Int) then
                          if ((a0.body.getD 0 0) == 0) = true then
                            if (0 : Int) ≤ (1 : Int) ∧ (1 : Int) ≤ (a0.body.length : Int) then
                              if (decide (((a0.body.drop 1).length : Int) > 8)) = true then
                                some (0, 127)
                              else
                                (loopO stepd26_0 ((a0.body.drop 1), 0, 0)).bind fun z2 =>
                                  some (z2, 0)
                            else none
                          else
                            if (decide ((a0.body.length : Int) > 8)) = true then
                              some (0, 127)
                            else
                              (loopO stepd26_0 (a0.body, 0, 0)).bind fun z3 =>
                                some (z3, 0)
                        else none
                    else none
                  else
                    if (0 : Int) ≤ (0 : Int) ∧ (0 : Int) < (a0.body.length : Int) then
                      if ((a0.body.getD 0 0) == 0) = true then
                        if (0 : Int) ≤ (1 : Int) ∧ (1 : Int) ≤ (a0.body.length : Int) then
                          if (decide (((a0.body.drop 1).length : Int) > 8)) = true then
                            some (0, 127)
                          else
                            (loopO stepd26_0 ((a0.body.drop 1), 0, 0)).bind fun z4 =>
                              some (z4, 0)
                        else none
                      else
                        if (decide ((a0.body.length : Int) > 8)) = true then
                          some (0, 127)
                        else
                          (loopO stepd26_0 (a0.body, 0, 0)).bind fun z5 =>
                            some (z5, 0)
                    else none
                else none
              else
                if (0 : Int) ≤ (0 : Int) ∧ (0 : Int) < (a0.body.length : Int) then
                  if ((a0.body.getD 0 0) == 0) = true then
                    if (0 : Int) ≤ (1 : Int) ∧ (1 : Int) ≤ (a0.body.length : Int) then
                      if (decide (((a0.body.drop 1).length : Int) > 8)) = true then
                        some (0, 127)
                      else
                        (loopO stepd26_0 ((a0.body.drop 1), 0, 0)).bind fun z6 =>
                          some (z6, 0)
                    else none
                  else
                    if (decide ((a0.body.length : Int) > 8)) = true then
                      some (0, 127)
                    else
                      (loopO stepd26_0 (a0.body, 0, 0)).bind fun z7 =>
                        some (z7, 0)
                else none
            else
              some (0, 127)
          else none
        else
          some (0, 127)
      else
        some (0, 127)

noncomputable def annd26 : Ann := (.seq .none (.seq .none (.seq .none (.seq .none (.seq .none (.seq .none (.seq .none (.seq (.seq .none (.seq (.cut (cutEnt ld26_0 od26_0 (loopO (stepd26_0)))) .none)) .none))))))))
theorem eqd26_0 : ∀ s : ld26_0.T, exec dtab (ofL Ed25) 68 (Code.at' [1, 1, 1, 1, 1, 1, 1, 0, 1, 0, 0] bodyd26) annd26_0 (fun e st => loopEnd (l := ld26_0) (outs := od26_0) e st) (ld26_0.enc s) = stepd26_0 s := by
  rintro ⟨t4, t5, t6⟩
  kernel_rfl
theorem okd26_0 : LOk Go.Proofs.Try.prog 68 (cutEnt ld26_0 od26_0 (loopO stepd26_0)) (Code.at' [1, 1, 1, 1, 1, 1, 1, 0, 1, 0] bodyd26) := by
  have e : Code.at' [1, 1, 1, 1, 1, 1, 1, 0, 1, 0] bodyd26 = .loop (Code.at' [1, 1, 1, 1, 1, 1, 1, 0, 1, 0, 0] bodyd26) := by kernel_rfl
  rw [e]
  refine loop_ok cd26 68 rfl rfl (annOk_of_cuts ?_) eqd26_0
  intro x hx
  exact absurd hx (by show x ∉ ([] : List (List Nat × LEnt)); simp)

theorem eqd26 : ∀ x : Sd26.inT, exec dtab (ofL Ed25) 68 bodyd26 annd26 (finL dtab Sd26) (Sd26.inp.enc x) = Fd26 x := by
  intro x
  kernel_rfl
theorem callsd26 : CallsL Go.Proofs.Try.prog 26 Sd26 Fd26 := by
  refine fun_callsL (fn := Go.Proofs.Try.f26) (c := bodyd26) (ann := annd26) cd26 (by kernel_rfl) (by kernel_rfl) (by kernel_rfl) (by kernel_rfl) (by kernel_rfl) (annOk_of_cuts ?_) eqd26
  have hc : Ann.cuts annd26 = [([1, 1, 1, 1, 1, 1, 1, 0, 1, 0], (cutEnt ld26_0 od26_0 (loopO (stepd26_0))))] := by kernel_rfl
  rw [hc]
  intro x hx
  simp only [List.mem_cons, List.not_mem_nil, or_false] at hx
  rcases hx with rfl
  · have e : Code.at' [1, 1, 1, 1, 1, 1, 1, 0, 1, 0] bodyd26 = Code.at' [1, 1, 1, 1, 1, 1, 1, 0, 1, 0] bodyd26 := by kernel_rfl
    rw [e]; exact okd26_0

theorem entd26 : EntOk Go.Proofs.Try.prog 26 (funEntL Sd26 true Fd26) := fun_okL (fn := Go.Proofs.Try.f26) (c := bodyd26) (by kernel_rfl) (by kernel_rfl) (by kernel_rfl) (by kernel_rfl) callsd26
noncomputable def Ed26 : List (Nat × Ent) := (26, (funEntL Sd26 true Fd26)) :: Ed25
theorem Ed26_ok : EntsOk Go.Proofs.Try.prog (ofL Ed26) := .cons entd26 Ed25_ok

/-! ### barbican/barbicanref12.Bool -/
noncomputable def bodyd27 : Code := (Go.Proofs.Try.f27.body).getD .skip
abbrev Sd27 : FL := ⟨⟨[], [.env 0 (.dat .item)], []⟩, 1, [(.ret, ⟨[], [.env 0 (.c (.bool)), .env 1 (.c (.int .i64))], []⟩)], [.tmp 2, .tmp 3], false⟩
noncomputable def cd27 : Ctx Go.Proofs.Try.prog := ⟨dtab, ofL Ed26, dtabOk, Ed26_ok, ddep, dord⟩
noncomputable def Fd27 : Tree → Option ((Bool × Int))
  | a0 =>
    if (a0.tag != 1) = true then
      some (false, 123)
    else
      if ((a0.body.length : Int) != 1) = false then
        if (decide ((a0.kids.length : Int) > 0)) = false then
          if (0 : Int) ≤ (0 : Int) ∧ (0 : Int) < (a0.body.length : Int) then
            if ((a0.body.getD 0 0) != 0) = true then
              if (0 : Int) ≤ (0 : Int) ∧ (0 : Int) < (a0.body.length : Int) then
                if ((a0.body.getD 0 0) != 255) = true then
                  some (false, 127)
                else
                  if (0 : Int) ≤ (0 : Int) ∧ (0 : Int) < (a0.body.length : Int) then
                    some (((a0.body.getD 0 0) == 255), 0)
                  else none
              else none
            else
              if (0 : Int) ≤ (0 : Int) ∧ (0 : Int) < (a0.body.length : Int) then
                some (((a0.body.getD 0 0) == 255), 0)
              else none
          else none
        else
          some (false, 127)
      else
        some (false, 127)

noncomputable def annd27 : Ann := .none
theorem eqd27 : ∀ x : Sd27.inT, exec dtab (ofL Ed26) 36 bodyd27 annd27 (finL dtab Sd27) (Sd27.inp.enc x) = Fd27 x := by
  intro x
  kernel_rfl
theorem callsd27 : CallsL Go.Proofs.Try.prog 27 Sd27 Fd27 := by
  refine fun_callsL (fn := Go.Proofs.Try.f27) (c := bodyd27) (ann := annd27) cd27 (by kernel_rfl) (by kernel_rfl) (by kernel_rfl) (by kernel_rfl) (by kernel_rfl) (annOk_of_cuts ?_) eqd27
  intro x hx
  exact absurd hx (by show x ∉ ([] : List (List Nat × LEnt)); simp)

theorem entd27 : EntOk Go.Proofs.Try.prog 27 (funEntL Sd27 true Fd27) := fun_okL (fn := Go.Proofs.Try.f27) (c := bodyd27) (by kernel_rfl) (by kernel_rfl) (by kernel_rfl) (by kernel_rfl) callsd27
noncomputable def Ed27 : List (Nat × Ent) := (27, (funEntL Sd27 true Fd27)) :: Ed26
theorem Ed27_ok : EntsOk Go.Proofs.Try.prog (ofL Ed27) := .cons entd27 Ed26_ok

/-! ### slices.Reverse[[]byte,byte] -/
noncomputable def bodyd50 : Code := (Go.Proofs.Try.f50.body).getD .skip
abbrev Sd50 : FL := ⟨⟨[], [.reg 1000000 (.row 5 .u8), .env 0 (.c (.sl 1000000))], [(1000000, .env 0 0)]⟩, 1, [(.ret, ⟨[], [.reg 1000000 (.row 5 .u8)], []⟩)], [], false⟩
noncomputable def cd50 : Ctx Go.Proofs.Try.prog := ⟨dtab, ofL Ed27, dtabOk, Ed27_ok, ddep, dord⟩
abbrev ld50_0 : Lay := ⟨[], [.env 0 (.c (.sl 1000000)), .env 2 (.c (.int .i64)), .env 3 (.c (.int .i64)), .reg 1000000 (.row 5 .u8)], []⟩
abbrev od50_0 : List (AExit × Lay) := [(.exit 0, ⟨[], [.reg 1000000 (.row 5 .u8)], []⟩)]
noncomputable def stepd50_0 : (Nat × Nat) × Int × Int × List Int → Option (((Nat × Nat) × Int × Int × List Int) ⊕ ((List Int)))
  | (t0, t2, t3, r1000000) =>
    if (decide (t2 < t3)) = true then
      if (0 : Int) ≤ t3 ∧ t3 < ((t0.2 : Nat) : Int) then
        if (0 : Int) ≤ t2 ∧ t2 < ((t0.2 : Nat) : Int) then
          if (0 : Int) ≤ t2 ∧ t2 < ((t0.2 : Nat) : Int) then
            let f1 : List Int := (r1000000.set (t0.1 + t2.toNat) (r1000000.getD (t0.1 + t3.toNat) 0))
            if (0 : Int) ≤ t3 ∧ t3 < ((t0.2 : Nat) : Int) then
              let f2 : List Int := (f1.set (t0.1 + t3.toNat) (r1000000.getD (t0.1 + t2.toNat) 0))
              some (.inl ((t0.1, t0.2), (IntKind.i64.wrap (t2 + 1)), (IntKind.i64.wrap (t3 - 1)), f2))
            else none
          else none
        else none
      else none
    else
      some (.inr r1000000)

noncomputable def annd50_0 : Ann := .none
noncomputable def Fd50 : List Int × (Nat × Nat) → Option ((List Int))
  | (ra0, a0) =>
    (loopO stepd50_0 ((a0.1, a0.2), 0, (IntKind.i64.wrap (((a0.2 : Nat) : Int) - 1)), ra0)).bind fun z3 =>
      some z3

noncomputable def annd50 : Ann := (.seq .none (.seq (.cut (cutEnt ld50_0 od50_0 (loopO (stepd50_0)))) .none))
theorem eqd50_0 : ∀ s : ld50_0.T, exec dtab (ofL Ed27) 28 (Code.at' [1, 0, 0] bodyd50) annd50_0 (fun e st => loopEnd (l := ld50_0) (outs := od50_0) e st) (ld50_0.enc s) = stepd50_0 s := by
  rintro ⟨t0, t2, t3, r1000000⟩
  kernel_rfl
theorem okd50_0 : LOk Go.Proofs.Try.prog 28 (cutEnt ld50_0 od50_0 (loopO stepd50_0)) (Code.at' [1, 0] bodyd50) := by
  have e : Code.at' [1, 0] bodyd50 = .loop (Code.at' [1, 0, 0] bodyd50) := by kernel_rfl
  rw [e]
  refine loop_ok cd50 28 rfl rfl (annOk_of_cuts ?_) eqd50_0
  intro x hx
  exact absurd hx (by show x ∉ ([] : List (List Nat × LEnt)); simp)

theorem eqd50 : ∀ x : Sd50.inT, exec dtab (ofL Ed27) 28 bodyd50 annd50 (finL dtab Sd50) (Sd50.inp.enc x) = Fd50 x := by
  rintro ⟨ra0, a0⟩
  kernel_rfl
theorem callsd50 : CallsL Go.Proofs.Try.prog 50 Sd50 Fd50 := by
  refine fun_callsL (fn := Go.Proofs.Try.f50) (c := bodyd50) (ann := annd50) cd50 (by kernel_rfl) (by kernel_rfl) (by kernel_rfl) (by kernel_rfl) (by kernel_rfl) (annOk_of_cuts ?_) eqd50
  have hc : Ann.cuts annd50 = [([1, 0], (cutEnt ld50_0 od50_0 (loopO (stepd50_0))))] := by kernel_rfl
  rw [hc]
  intro x hx
  simp only [List.mem_cons, List.not_mem_nil, or_false] at hx
  rcases hx with rfl
  · have e : Code.at' [1, 0] bodyd50 = Code.at' [1, 0] bodyd50 := by kernel_rfl
    rw [e]; exact okd50_0

theorem entd50 : EntOk Go.Proofs.Try.prog 50 (funEntL Sd50 true Fd50) := fun_okL (fn := Go.Proofs.Try.f50) (c := bodyd50) (by kernel_rfl) (by kernel_rfl) (by kernel_rfl) (by kernel_rfl) callsd50
noncomputable def Ed50 : List (Nat × Ent) := (50, (funEntL Sd50 true Fd50)) :: Ed27
theorem Ed50_ok : EntsOk Go.Proofs.Try.prog (ofL Ed50) := .cons entd50 Ed27_ok

/-! ### barbican/der.OfUint -/
noncomputable def bodyd28 : Code := (Go.Proofs.Try.f28.body).getD .skip
abbrev Sd28 : FL := ⟨⟨[], [.env 0 (.c (.int .u64))], []⟩, 1, [(.ret, ⟨[], [.env 0 (.dat .item)], []⟩)], [.cell 2 25], true⟩
noncomputable def cd28 : Ctx Go.Proofs.Try.prog := ⟨dtab, ofL Ed50, dtabOk, Ed50_ok, ddep, dord⟩
abbrev ld28_0 : Lay := ⟨[(2, .ptr 2 0 3), (3, .full 6)], [.env 0 (.c (.int .u64)), .reg 2 (.cells [.int .u8, .nils, .nils]), .reg 6 (.row 5 .u8)], [(2, .env 2 0), (6, .env 3 0)]⟩
abbrev od28_0 : List (AExit × Lay) := [(.exit 0, ⟨[(2, .ptr 2 0 3), (3, .full 6)], [.reg 2 (.cells [.int .u8, .nils, .nils]), .reg 6 (.row 5 .u8)], [(2, .env 2 0), (6, .env 3 0)]⟩)]
noncomputable def stepd28_0 : Int × (Int × Unit × Unit) × List Int → Option ((Int × (Int × Unit × Unit) × List Int) ⊕ (((Int × Unit × Unit) × List Int)))
  | (t0, r2, r6) =>
    if (decide (t0 > 0)) = true then
      if okBytes (r6.length + ((List.replicate 1 (0 : Int)).set 0 (IntKind.u8.wrap t0)).length) 1 then
        let f1 : List Int := (r6 ++ ((List.replicate 1 (0 : Int)).set 0 (IntKind.u8.wrap t0)))
        some (.inl ((shrI .u64 t0 8), (r2.1, (), ()), f1))
      else none
    else
      some (.inr ((r2.1, (), ()), r6))

noncomputable def annd28_0 : Ann := .none
noncomputable def Fd28 : Int → Option ((Tree))
  | a0 =>
    (loopO stepd28_0 ((shrI .u64 a0 8), (0, (), ()), ((List.replicate 1 (0 : Int)).set 0 (IntKind.u8.wrap a0)))).bind fun (z2, z3) =>
      if (0 : Int) ≤ (IntKind.i64.wrap ((z3.length : Int) - 1)) ∧ (IntKind.i64.wrap ((z3.length : Int) - 1)) < (z3.length : Int) then
        let x4 : Bool := (decide ((z3.getD (IntKind.i64.wrap ((z3.length : Int) - 1)).toNat 0) ≥ 128))
        if x4 = true then
          if okBytes (z3.length + ((List.replicate 1 (0 : Int)).set 0 0).length) 1 then
            (Fd50 ((z3 ++ ((List.replicate 1 (0 : Int)).set 0 0)), (0, (z3 ++ ((List.replicate 1 (0 : Int)).set 0 0)).length))).bind fun y5 =>
              some (Tree.node 2 y5 ([] : List Tree))
          else none
        else
          (Fd50 (z3, (0, z3.length))).bind fun y6 =>
            some (Tree.node 2 y6 ([] : List Tree))
      else none

noncomputable def annd28 : Ann := (.seq .none (.seq .none (.seq (.seq .none (.seq (.cut (cutEnt ld28_0 od28_0 (loopO (stepd28_0)))) .none)) .none)))
theorem eqd28_0 : ∀ s : ld28_0.T, exec dtab (ofL Ed50) 32 (Code.at' [1, 1, 0, 1, 0, 0] bodyd28) annd28_0 (fun e st => loopEnd (l := ld28_0) (outs := od28_0) e st) (ld28_0.enc s) = stepd28_0 s := by
  rintro ⟨t0, r2, r6⟩
  kernel_rfl
theorem okd28_0 : LOk Go.Proofs.Try.prog 32 (cutEnt ld28_0 od28_0 (loopO stepd28_0)) (Code.at' [1, 1, 0, 1, 0] bodyd28) := by
  have e : Code.at' [1, 1, 0, 1, 0] bodyd28 = .loop (Code.at' [1, 1, 0, 1, 0, 0] bodyd28) := by kernel_rfl
  rw [e]
  refine loop_ok cd28 32 rfl rfl (annOk_of_cuts ?_) eqd28_0
  intro x hx
  exact absurd hx (by show x ∉ ([] : List (List Nat × LEnt)); simp)

theorem eqd28 : ∀ x : Sd28.inT, exec dtab (ofL Ed50) 32 bodyd28 annd28 (finL dtab Sd28) (Sd28.inp.enc x) = Fd28 x := by
  intro x
  kernel_rfl
theorem callsd28 : CallsL Go.Proofs.Try.prog 28 Sd28 Fd28 := by
  refine fun_callsL (fn := Go.Proofs.Try.f28) (c := bodyd28) (ann := annd28) cd28 (by kernel_rfl) (by kernel_rfl) (by kernel_rfl) (by kernel_rfl) (by kernel_rfl) (annOk_of_cuts ?_) eqd28
  have hc : Ann.cuts annd28 = [([1, 1, 0, 1, 0], (cutEnt ld28_0 od28_0 (loopO (stepd28_0))))] := by kernel_rfl
  rw [hc]
  intro x hx
  simp only [List.mem_cons, List.not_mem_nil, or_false] at hx
  rcases hx with rfl
  · have e : Code.at' [1, 1, 0, 1, 0] bodyd28 = Code.at' [1, 1, 0, 1, 0] bodyd28 := by kernel_rfl
    rw [e]; exact okd28_0

theorem entd28 : EntOk Go.Proofs.Try.prog 28 (funEntL Sd28 true Fd28) := fun_okL (fn := Go.Proofs.Try.f28) (c := bodyd28) (by kernel_rfl) (by kernel_rfl) (by kernel_rfl) (by kernel_rfl) callsd28
noncomputable def Ed28 : List (Nat × Ent) := (28, (funEntL Sd28 true Fd28)) :: Ed50
theorem Ed28_ok : EntsOk Go.Proofs.Try.prog (ofL Ed28) := .cons entd28 Ed50_ok

/-! ### barbican/der.OfBool -/
noncomputable def bodyd29 : Code := (Go.Proofs.Try.f29.body).getD .skip
abbrev Sd29 : FL := ⟨⟨[], [.env 0 (.c (.bool))], []⟩, 1, [(.ret, ⟨[], [.env 0 (.dat .item)], []⟩)], [.cell 2 25], true⟩
noncomputable def cd29 : Ctx Go.Proofs.Try.prog := ⟨dtab, ofL Ed28, dtabOk, Ed28_ok, ddep, dord⟩
noncomputable def Fd29 : Bool → Option ((Tree))
  | a0 =>
    if a0 = true then
      some (Tree.node 1 ((List.replicate 1 (0 : Int)).set 0 255) ([] : List Tree))
    else
      some (Tree.node 1 ((List.replicate 1 (0 : Int)).set 0 0) ([] : List Tree))

noncomputable def annd29 : Ann := .none
theorem eqd29 : ∀ x : Sd29.inT, exec dtab (ofL Ed28) 10 bodyd29 annd29 (finL dtab Sd29) (Sd29.inp.enc x) = Fd29 x := by
  intro x
  kernel_rfl
theorem callsd29 : CallsL Go.Proofs.Try.prog 29 Sd29 Fd29 := by
  refine fun_callsL (fn := Go.Proofs.Try.f29) (c := bodyd29) (ann := annd29) cd29 (by kernel_rfl) (by kernel_rfl) (by kernel_rfl) (by kernel_rfl) (by kernel_rfl) (annOk_of_cuts ?_) eqd29
  intro x hx
  exact absurd hx (by show x ∉ ([] : List (List Nat × LEnt)); simp)

theorem entd29 : EntOk Go.Proofs.Try.prog 29 (funEntL Sd29 true Fd29) := fun_okL (fn := Go.Proofs.Try.f29) (c := bodyd29) (by kernel_rfl) (by kernel_rfl) (by kernel_rfl) (by kernel_rfl) callsd29
noncomputable def Ed29 : List (Nat × Ent) := (29, (funEntL Sd29 true Fd29)) :: Ed28
theorem Ed29_ok : EntsOk Go.Proofs.Try.prog (ofL Ed29) := .cons entd29 Ed28_ok

/-! ### barbican/barbicanref12.OfUint -/
noncomputable def bodyd30 : Code := (Go.Proofs.Try.f30.body).getD .skip
abbrev Sd30 : FL := ⟨⟨[], [.env 0 (.c (.int .u64))], []⟩, 1, [(.ret, ⟨[], [.env 0 (.dat .item)], []⟩)], [.cell 2 25], true⟩
noncomputable def cd30 : Ctx Go.Proofs.Try.prog := ⟨dtab, ofL Ed29, dtabOk, Ed29_ok, ddep, dord⟩
abbrev ld30_0 : Lay := ⟨[(2, .ptr 2 0 3), (3, .full 3)], [.env 0 (.c (.int .u64)), .reg 2 (.cells [.int .u8, .nils, .nils]), .reg 3 (.row 5 .u8)], [(2, .env 2 0), (3, .env 3 0)]⟩
abbrev od30_0 : List (AExit × Lay) := [(.exit 0, ⟨[(2, .ptr 2 0 3), (3, .full 3)], [.reg 2 (.cells [.int .u8, .nils, .nils]), .reg 3 (.row 5 .u8)], [(2, .env 2 0), (3, .env 3 0)]⟩)]
noncomputable def stepd30_0 : Int × (Int × Unit × Unit) × List Int → Option ((Int × (Int × Unit × Unit) × List Int) ⊕ (((Int × Unit × Unit) × List Int)))
  | (t0, r2, r3) =>
    if (decide (t0 > 0)) = false then
      if ((r3.length : Int) == 0) = true then
        let f1 : List Int := ((List.replicate 1 (0 : Int)).set 0 (IntKind.u8.wrap (t0.tmod 256)))
        if okBytes (f1.length + r3.length) 1 then
          some (.inl ((IntKind.u64.wrap (t0.tdiv 256)), (r2.1, (), ()), (f1 ++ r3)))
        else none
      else
        some (.inr ((r2.1, (), ()), r3))
    else
      let f2 : List Int := ((List.replicate 1 (0 : Int)).set 0 (IntKind.u8.wrap (t0.tmod 256)))
      if okBytes (f2.length + r3.length) 1 then
        some (.inl ((IntKind.u64.wrap (t0.tdiv 256)), (r2.1, (), ()), (f2 ++ r3)))
      else none

noncomputable def annd30_0 : Ann := .none
noncomputable def Fd30 : Int → Option ((Tree))
  | a0 =>
    (loopO stepd30_0 (a0, (0, (), ()), ([] : List Int))).bind fun (z3, z4) =>
      if (0 : Int) ≤ (0 : Int) ∧ (0 : Int) < (z4.length : Int) then
        if (decide ((z4.getD 0 0) ≥ 128)) = true then
          if okBytes (((List.replicate 1 (0 : Int)).set 0 0).length + z4.length) 1 then
            some (Tree.node 2 (((List.replicate 1 (0 : Int)).set 0 0) ++ z4) ([] : List Tree))
          else none
        else
          some (Tree.node 2 z4 ([] : List Tree))
      else none

noncomputable def annd30 : Ann := (.seq .none (.seq .none (.seq (.seq (.cut (cutEnt ld30_0 od30_0 (loopO (stepd30_0)))) .none) .none)))
theorem eqd30_0 : ∀ s : ld30_0.T, exec dtab (ofL Ed29) 28 (Code.at' [1, 1, 0, 0, 0] bodyd30) annd30_0 (fun e st => loopEnd (l := ld30_0) (outs := od30_0) e st) (ld30_0.enc s) = stepd30_0 s := by
  rintro ⟨t0, r2, r3⟩
  kernel_rfl
theorem okd30_0 : LOk Go.Proofs.Try.prog 28 (cutEnt ld30_0 od30_0 (loopO stepd30_0)) (Code.at' [1, 1, 0, 0] bodyd30) := by
  have e : Code.at' [1, 1, 0, 0] bodyd30 = .loop (Code.at' [1, 1, 0, 0, 0] bodyd30) := by kernel_rfl
  rw [e]
  refine loop_ok cd30 28 rfl rfl (annOk_of_cuts ?_) eqd30_0
  intro x hx
  exact absurd hx (by show x ∉ ([] : List (List Nat × LEnt)); simp)

theorem eqd30 : ∀ x : Sd30.inT, exec dtab (ofL Ed29) 28 bodyd30 annd30 (finL dtab Sd30) (Sd30.inp.enc x) = Fd30 x := by
  intro x
  kernel_rfl
theorem callsd30 : CallsL Go.Proofs.Try.prog 30 Sd30 Fd30 := by
  refine fun_callsL (fn := Go.Proofs.Try.f30) (c := bodyd30) (ann := annd30) cd30 (by kernel_rfl) (by kernel_rfl) (by kernel_rfl) (by kernel_rfl) (by kernel_rfl) (annOk_of_cuts ?_) eqd30
  have hc : Ann.cuts annd30 = [([1, 1, 0, 0], (cutEnt ld30_0 od30_0 (loopO (stepd30_0))))] := by kernel_rfl
  rw [hc]
  intro x hx
  simp only [List.mem_cons, List.not_mem_nil, or_false] at hx
  rcases hx with rfl
  · have e : Code.at' [1, 1, 0, 0] bodyd30 = Code.at' [1, 1, 0, 0] bodyd30 := by kernel_rfl
    rw [e]; exact okd30_0

theorem entd30 : EntOk Go.Proofs.Try.prog 30 (funEntL Sd30 true Fd30) := fun_okL (fn := Go.Proofs.Try.f30) (c := bodyd30) (by kernel_rfl) (by kernel_rfl) (by kernel_rfl) (by kernel_rfl) callsd30
noncomputable def Ed30 : List (Nat × Ent) := (30, (funEntL Sd30 true Fd30)) :: Ed29
theorem Ed30_ok : EntsOk Go.Proofs.Try.prog (ofL Ed30) := .cons entd30 Ed29_ok

/-! ### barbican/barbicanref12.OfBool -/
noncomputable def bodyd31 : Code := (Go.Proofs.Try.f31.body).getD .skip
abbrev Sd31 : FL := ⟨⟨[], [.env 0 (.c (.bool))], []⟩, 1, [(.ret, ⟨[], [.env 0 (.dat .item)], []⟩)], [.cell 2 25], true⟩
noncomputable def cd31 : Ctx Go.Proofs.Try.prog := ⟨dtab, ofL Ed30, dtabOk, Ed30_ok, ddep, dord⟩
noncomputable def Fd31 : Bool → Option ((Tree))
  | a0 =>
    if a0 = true then
      some (Tree.node 1 ((List.replicate 1 (0 : Int)).set 0 255) ([] : List Tree))
    else
      some (Tree.node 1 ((List.replicate 1 (0 : Int)).set 0 0) ([] : List Tree))

noncomputable def annd31 : Ann := .none
theorem eqd31 : ∀ x : Sd31.inT, exec dtab (ofL Ed30) 8 bodyd31 annd31 (finL dtab Sd31) (Sd31.inp.enc x) = Fd31 x := by
  intro x
  kernel_rfl
theorem callsd31 : CallsL Go.Proofs.Try.prog 31 Sd31 Fd31 := by
  refine fun_callsL (fn := Go.Proofs.Try.f31) (c := bodyd31) (ann := annd31) cd31 (by kernel_rfl) (by kernel_rfl) (by kernel_rfl) (by kernel_rfl) (by kernel_rfl) (annOk_of_cuts ?_) eqd31
  intro x hx
  exact absurd hx (by show x ∉ ([] : List (List Nat × LEnt)); simp)

theorem entd31 : EntOk Go.Proofs.Try.prog 31 (funEntL Sd31 true Fd31) := fun_okL (fn := Go.Proofs.Try.f31) (c := bodyd31) (by kernel_rfl) (by kernel_rfl) (by kernel_rfl) (by kernel_rfl) callsd31
noncomputable def Ed31 : List (Nat × Ent) := (31, (funEntL Sd31 true Fd31)) :: Ed30
theorem Ed31_ok : EntsOk Go.Proofs.Try.prog (ofL Ed31) := .cons entd31 Ed30_ok

/-! ### barbican/barbicanlaw12.DerValues -/
noncomputable def bodyd8 : Code := (Go.Proofs.Try.f8.body).getD .skip
abbrev Sd8 : FL := ⟨⟨[], [.env 0 (.dat .item), .env 1 (.c (.int .u64)), .env 2 (.c (.bool))], []⟩, 3, [(.ret, ⟨[], [.env 0 (.c (.bool))], []⟩)], [.tmp 6], false⟩
noncomputable def cd8 : Ctx Go.Proofs.Try.prog := ⟨dtab, ofL Ed31, dtabOk, Ed31_ok, ddep, dord⟩
noncomputable def Fd8 : Tree × Int × Bool → Option ((Bool))
  | (a0, a1, a2) =>
    (Fd16 (Tree.node a0.tag a0.body a0.kids)).bind fun y1 =>
      if y1 = true then
        (Fd15 ()).bind fun y2 =>
          some y2
      else
        (Fd24 (Tree.node a0.tag a0.body a0.kids)).bind fun (y3, y4) =>
          (Fd25 (Tree.node a0.tag a0.body a0.kids)).bind fun (y5, y6) =>
            (Fd26 (Tree.node a0.tag a0.body a0.kids)).bind fun (y7, y8) =>
              (Fd27 (Tree.node a0.tag a0.body a0.kids)).bind fun (y9, y10) =>
                (Fd15 ()).bind fun y11 =>
                  if (!y11) = false then
                    if (y3 != y7) = false then
                      if (y4 != y8) = false then
                        if (!(y5 == y9)) = false then
                          if (y6 != y10) = true then
                            some false
                          else
                            (Fd28 a1).bind fun y12 =>
                              (Fd29 a2).bind fun y13 =>
                                (Fd30 a1).bind fun y14 =>
                                  (Fd12 ((Tree.node y12.tag y12.body y12.kids), (Tree.node y14.tag y14.body y14.kids))).bind fun y15 =>
                                    (Fd31 a2).bind fun y16 =>
                                      (Fd12 ((Tree.node y13.tag y13.body y13.kids), (Tree.node y16.tag y16.body y16.kids))).bind fun y17 =>
                                        (Fd24 (Tree.node y12.tag y12.body y12.kids)).bind fun (y18, y19) =>
                                          (Fd25 (Tree.node y13.tag y13.body y13.kids)).bind fun (y20, y21) =>
                                            if (y4 == 0) = true then
                                              (Fd28 y3).bind fun y22 =>
                                                (Fd12 ((Tree.node y22.tag y22.body y22.kids), (Tree.node a0.tag a0.body a0.kids))).bind fun y23 =>
                                                  if (!y23) = true then
                                                    some false
                                                  else
                                                    if y15 = true then
                                                      if y17 = true then
                                                        if (y19 == 0) = true then
                                                          if (y18 == a1) = true then
                                                            if (y21 == 0) = true then
                                                              some (y20 == a2)
                                                            else
                                                              some false
                                                          else
                                                            some false
                                                        else
                                                          some false
                                                      else
                                                        some false
                                                    else
                                                      some false
                                            else
                                              if y15 = true then
                                                if y17 = true then
                                                  if (y19 == 0) = true then
                                                    if (y18 == a1) = true then
                                                      if (y21 == 0) = true then
                                                        some (y20 == a2)
                                                      else
                                                        some false
                                                    else
                                                      some false
                                                  else
                                                    some false
                                                else
                                                  some false
                                              else
                                                some false
                        else
                          some false
                      else
                        some false
                    else
                      some false
                  else
                    some false

noncomputable def annd8 : Ann := .none
theorem eqd8 : ∀ x : Sd8.inT, exec dtab (ofL Ed31) 123 bodyd8 annd8 (finL dtab Sd8) (Sd8.inp.enc x) = Fd8 x := by
  rintro ⟨a0, a1, a2⟩
  kernel_rfl
theorem callsd8 : CallsL Go.Proofs.Try.prog 8 Sd8 Fd8 := by
  refine fun_callsL (fn := Go.Proofs.Try.f8) (c := bodyd8) (ann := annd8) cd8 (by kernel_rfl) (by kernel_rfl) (by kernel_rfl) (by kernel_rfl) (by kernel_rfl) (annOk_of_cuts ?_) eqd8
  intro x hx
  exact absurd hx (by show x ∉ ([] : List (List Nat × LEnt)); simp)

theorem entd8 : EntOk Go.Proofs.Try.prog 8 (funEntL Sd8 true Fd8) := fun_okL (fn := Go.Proofs.Try.f8) (c := bodyd8) (by kernel_rfl) (by kernel_rfl) (by kernel_rfl) (by kernel_rfl) callsd8
noncomputable def Ed8 : List (Nat × Ent) := (8, (funEntL Sd8 true Fd8)) :: Ed31
theorem Ed8_ok : EntsOk Go.Proofs.Try.prog (ofL Ed8) := .cons entd8 Ed31_ok

/-! ### barbican/der.OID -/
noncomputable def bodyd32 : Code := (Go.Proofs.Try.f32.body).getD .skip
abbrev Sd32 : FL := ⟨⟨[], [.env 0 (.dat .item)], []⟩, 1, [(.ret, ⟨[(0, .full 3)], [.reg 3 (.row 42 .u64), .env 1 (.c (.int .i64))], [(3, .env 0 0)]⟩)], [.tmp 2, .tmp 3], false⟩
noncomputable def cd32 : Ctx Go.Proofs.Try.prog := ⟨dtab, ofL Ed8, dtabOk, Ed8_ok, ddep, dord⟩
abbrev ld32_0 : Lay := ⟨[(5, .full 5)], [.env 6 (.c (.int .u64)), .env 7 (.c (.bool)), .env 16 (.c (.fz (.int .u8))), .env 17 (.c (.int .i64)), .env 18 (.c (.int .i64)), .reg 5 (.row 42 .u64)], [(5, .env 5 0)]⟩
abbrev od32_0 : List (AExit × Lay) := [(.ret, ⟨[(2, .full 2)], [.env 3 (.c (.int .i64)), .reg 2 (.row 42 .u64)], [(2, .env 2 0)]⟩), (.exit 0, ⟨[(5, .full 5)], [.env 7 (.c (.bool)), .reg 5 (.row 42 .u64)], [(5, .env 5 0)]⟩)]
noncomputable def stepd32_0 : Int × Bool × (List Int) × Int × Int × List Int → Option ((Int × Bool × (List Int) × Int × Int × List Int) ⊕ ((Int × List Int) ⊕ (Bool × List Int)))
  | (t6, t7, t16, t17, t18, r5) =>
    if (decide (t18 < t17)) = true then
      if (0 : Int) ≤ t18 ∧ t18 < (t16.length : Int) then
        if t7 = true then
          if ((t16.getD t18.toNat 0) == 128) = true then
            some (.inr (.inl (127, ([] : List Int))))
          else
            let x2 : Int := (bitsOr .u64 (shlI .u64 t6 7) (IntKind.u64.wrap (bitsAnd .u8 (t16.getD t18.toNat 0) 127)))
            if (decide (x2 > 4294967295)) = true then
              some (.inr (.inl (127, ([] : List Int))))
            else
              if (!(decide ((t16.getD t18.toNat 0) < 128))) = true then
                some (.inl (x2, (decide ((t16.getD t18.toNat 0) < 128)), t16, t17, (IntKind.i64.wrap (t18 + 1)), r5))
              else
                if ((r5.length : Int) == 0) = true then
                  let x3 : Int := (if 2 < (IntKind.u64.wrap (x2.tdiv 40)) then 2 else (IntKind.u64.wrap (x2.tdiv 40)))
                  if okBytes (r5.length + ((List.replicate 1 (0 : Int)).set 0 x3).length) 8 then
                    let f4 : List Int := ((List.replicate 1 (0 : Int)).set 0 (IntKind.u64.wrap (x2 - (IntKind.u64.wrap (40 * x3)))))
                    if okBytes ((r5 ++ ((List.replicate 1 (0 : Int)).set 0 x3)).length + f4.length) 8 then
                      some (.inl (0, (decide ((t16.getD t18.toNat 0) < 128)), t16, t17, (IntKind.i64.wrap (t18 + 1)), ((r5 ++ ((List.replicate 1 (0 : Int)).set 0 x3)) ++ f4)))
                    else none
                  else none
                else
                  if okBytes (r5.length + ((List.replicate 1 (0 : Int)).set 0 x2).length) 8 then
                    some (.inl (0, (decide ((t16.getD t18.toNat 0) < 128)), t16, t17, (IntKind.i64.wrap (t18 + 1)), (r5 ++ ((List.replicate 1 (0 : Int)).set 0 x2))))
                  else none
        else
          let x5 : Int := (bitsOr .u64 (shlI .u64 t6 7) (IntKind.u64.wrap (bitsAnd .u8 (t16.getD t18.toNat 0) 127)))
          if (decide (x5 > 4294967295)) = true then
            some (.inr (.inl (127, ([] : List Int))))
          else
            if (!(decide ((t16.getD t18.toNat 0) < 128))) = true then
              some (.inl (x5, (decide ((t16.getD t18.toNat 0) < 128)), t16, t17, (IntKind.i64.wrap (t18 + 1)), r5))
            else
              if ((r5.length : Int) == 0) = true then
                let x6 : Int := (if 2 < (IntKind.u64.wrap (x5.tdiv 40)) then 2 else (IntKind.u64.wrap (x5.tdiv 40)))
                if okBytes (r5.length + ((List.replicate 1 (0 : Int)).set 0 x6).length) 8 then
                  let f7 : List Int := ((List.replicate 1 (0 : Int)).set 0 (IntKind.u64.wrap (x5 - (IntKind.u64.wrap (40 * x6)))))
                  if okBytes ((r5 ++ ((List.replicate 1 (0 : Int)).set 0 x6)).length + f7.length) 8 then
                    some (.inl (0, (decide ((t16.getD t18.toNat 0) < 128)), t16, t17, (IntKind.i64.wrap (t18 + 1)), ((r5 ++ ((List.replicate 1 (0 : Int)).set 0 x6)) ++ f7)))
                  else none
                else none
              else
                if okBytes (r5.length + ((List.replicate 1 (0 : Int)).set 0 x5).length) 8 then
                  some (.inl (0, (decide ((t16.getD t18.toNat 0) < 128)), t16, t17, (IntKind.i64.wrap (t18 + 1)), (r5 ++ ((List.replicate 1 (0 : Int)).set 0 x5))))
                else none
      else none
    else
      some (.inr (.inr (t7, r5)))

noncomputable def annd32_0 : Ann := .none
noncomputable def Fd32 : Tree → Option ((List Int × Int))
  | a0 =>
    (Fd43 ((Tree.node a0.tag a0.body a0.kids), 6)).bind fun y1 =>
      if (y1 != 0) = true then
        some (([] : List Int), y1)
      else
        (loopO stepd32_0 (0, true, a0.body, (a0.body.length : Int), 0, ([] : List Int))).bind fun
          | (.inl (z8, z9)) =>
            some (z9, z8)
          | (.inr (z10, z11)) =>
            if (!z10) = false then
              if (decide ((z11.length : Int) > 20)) = true then
                some (([] : List Int), 127)
              else
                some (z11, 0)
            else
              some (([] : List Int), 127)

noncomputable def annd32 : Ann := (.seq .none (.seq .none (.seq .none (.seq .none (.seq .none (.seq (.seq .none (.seq (.cut (cutEnt ld32_0 od32_0 (loopO (stepd32_0)))) .none)) .none))))))
theorem eqd32_0 : ∀ s : ld32_0.T, exec dtab (ofL Ed8) 66 (Code.at' [1, 1, 1, 1, 1, 0, 1, 0, 0] bodyd32) annd32_0 (fun e st => loopEnd (l := ld32_0) (outs := od32_0) e st) (ld32_0.enc s) = stepd32_0 s := by
  rintro ⟨t6, t7, t16, t17, t18, r5⟩
  kernel_rfl
theorem okd32_0 : LOk Go.Proofs.Try.prog 66 (cutEnt ld32_0 od32_0 (loopO stepd32_0)) (Code.at' [1, 1, 1, 1, 1, 0, 1, 0] bodyd32) := by
  have e : Code.at' [1, 1, 1, 1, 1, 0, 1, 0] bodyd32 = .loop (Code.at' [1, 1, 1, 1, 1, 0, 1, 0, 0] bodyd32) := by kernel_rfl
  rw [e]
  refine loop_ok cd32 66 rfl rfl (annOk_of_cuts ?_) eqd32_0
  intro x hx
  exact absurd hx (by show x ∉ ([] : List (List Nat × LEnt)); simp)

theorem eqd32 : ∀ x : Sd32.inT, exec dtab (ofL Ed8) 66 bodyd32 annd32 (finL dtab Sd32) (Sd32.inp.enc x) = Fd32 x := by
  intro x
  kernel_rfl
theorem callsd32 : CallsL Go.Proofs.Try.prog 32 Sd32 Fd32 := by
  refine fun_callsL (fn := Go.Proofs.Try.f32) (c := bodyd32) (ann := annd32) cd32 (by kernel_rfl) (by kernel_rfl) (by kernel_rfl) (by kernel_rfl) (by kernel_rfl) (annOk_of_cuts ?_) eqd32
  have hc : Ann.cuts annd32 = [([1, 1, 1, 1, 1, 0, 1, 0], (cutEnt ld32_0 od32_0 (loopO (stepd32_0))))] := by kernel_rfl
  rw [hc]
  intro x hx
  simp only [List.mem_cons, List.not_mem_nil, or_false] at hx
  rcases hx with rfl
  · have e : Code.at' [1, 1, 1, 1, 1, 0, 1, 0] bodyd32 = Code.at' [1, 1, 1, 1, 1, 0, 1, 0] bodyd32 := by kernel_rfl
    rw [e]; exact okd32_0

theorem entd32 : EntOk Go.Proofs.Try.prog 32 (funEntL Sd32 true Fd32) := fun_okL (fn := Go.Proofs.Try.f32) (c := bodyd32) (by kernel_rfl) (by kernel_rfl) (by kernel_rfl) (by kernel_rfl) callsd32
noncomputable def Ed32 : List (Nat × Ent) := (32, (funEntL Sd32 true Fd32)) :: Ed8
theorem Ed32_ok : EntsOk Go.Proofs.Try.prog (ofL Ed32) := .cons entd32 Ed8_ok

/-! ### barbican/barbicanref12.figure -/
noncomputable def bodyd51 : Code := (Go.Proofs.Try.f51.body).getD .skip
abbrev Sd51 : FL := ⟨⟨[], [.env 0 (.c (.int .u64))], []⟩, 1, [(.ret, ⟨[(0, .full 1)], [.reg 1 (.row 5 .u8)], [(1, .env 0 0)]⟩)], [.tmp 2], false⟩
noncomputable def cd51 : Ctx Go.Proofs.Try.prog := ⟨dtab, ofL Ed32, dtabOk, Ed32_ok, ddep, dord⟩
abbrev ld51_0 : Lay := ⟨[(3, .full 7)], [.env 0 (.c (.int .u64)), .reg 7 (.row 5 .u8)], [(7, .env 3 0)]⟩
abbrev od51_0 : List (AExit × Lay) := [(.exit 0, ⟨[(3, .full 7)], [.reg 7 (.row 5 .u8)], [(7, .env 3 0)]⟩)]
noncomputable def stepd51_0 : Int × List Int → Option ((Int × List Int) ⊕ ((List Int)))
  | (t0, r7) =>
    if (decide (t0 > 0)) = true then
      let f2 : List Int := ((List.replicate 1 (0 : Int)).set 0 (IntKind.u8.wrap ((IntKind.u8.wrap (t0.tmod 128)) + 128)))
      if okBytes (f2.length + r7.length) 1 then
        some (.inl ((IntKind.u64.wrap (t0.tdiv 128)), (f2 ++ r7)))
      else none
    else
      some (.inr r7)

noncomputable def annd51_0 : Ann := .none
noncomputable def Fd51 : Int → Option ((List Int))
  | a0 =>
    let f1 : List Int := ((List.replicate 1 (0 : Int)).set 0 (IntKind.u8.wrap (a0.tmod 128)))
    (loopO stepd51_0 ((IntKind.u64.wrap (a0.tdiv 128)), f1)).bind fun z3 =>
      some z3

noncomputable def annd51 : Ann := (.seq .none (.seq .none (.seq (.seq .none (.seq (.cut (cutEnt ld51_0 od51_0 (loopO (stepd51_0)))) .none)) .none)))
theorem eqd51_0 : ∀ s : ld51_0.T, exec dtab (ofL Ed32) 22 (Code.at' [1, 1, 0, 1, 0, 0] bodyd51) annd51_0 (fun e st => loopEnd (l := ld51_0) (outs := od51_0) e st) (ld51_0.enc s) = stepd51_0 s := by
  rintro ⟨t0, r7⟩
  kernel_rfl
theorem okd51_0 : LOk Go.Proofs.Try.prog 22 (cutEnt ld51_0 od51_0 (loopO stepd51_0)) (Code.at' [1, 1, 0, 1, 0] bodyd51) := by
  have e : Code.at' [1, 1, 0, 1, 0] bodyd51 = .loop (Code.at' [1, 1, 0, 1, 0, 0] bodyd51) := by kernel_rfl
  rw [e]
  refine loop_ok cd51 22 rfl rfl (annOk_of_cuts ?_) eqd51_0
  intro x hx
  exact absurd hx (by show x ∉ ([] : List (List Nat × LEnt)); simp)

theorem eqd51 : ∀ x : Sd51.inT, exec dtab (ofL Ed32) 22 bodyd51 annd51 (finL dtab Sd51) (Sd51.inp.enc x) = Fd51 x := by
  intro x
  kernel_rfl
theorem callsd51 : CallsL Go.Proofs.Try.prog 51 Sd51 Fd51 := by
  refine fun_callsL (fn := Go.Proofs.Try.f51) (c := bodyd51) (ann := annd51) cd51 (by kernel_rfl) (by kernel_rfl) (by kernel_rfl) (by kernel_rfl) (by kernel_rfl) (annOk_of_cuts ?_) eqd51
  have hc : Ann.cuts annd51 = [([1, 1, 0, 1, 0], (cutEnt ld51_0 od51_0 (loopO (stepd51_0))))] := by kernel_rfl
  rw [hc]
  intro x hx
  simp only [List.mem_cons, List.not_mem_nil, or_false] at hx
  rcases hx with rfl
  · have e : Code.at' [1, 1, 0, 1, 0] bodyd51 = Code.at' [1, 1, 0, 1, 0] bodyd51 := by kernel_rfl
    rw [e]; exact okd51_0

theorem entd51 : EntOk Go.Proofs.Try.prog 51 (funEntL Sd51 true Fd51) := fun_okL (fn := Go.Proofs.Try.f51) (c := bodyd51) (by kernel_rfl) (by kernel_rfl) (by kernel_rfl) (by kernel_rfl) callsd51
noncomputable def Ed51 : List (Nat × Ent) := (51, (funEntL Sd51 true Fd51)) :: Ed32
theorem Ed51_ok : EntsOk Go.Proofs.Try.prog (ofL Ed51) := .cons entd51 Ed32_ok

/-! ### barbican/barbicanref12.OfOID -/
noncomputable def bodyd35 : Code := (Go.Proofs.Try.f35.body).getD .skip
abbrev Sd35 : FL := ⟨⟨[], [.env 0 (.c (.fz (.int .u64)))], []⟩, 1, [(.ret, ⟨[], [.env 0 (.dat .item), .env 1 (.c (.int .i64))], []⟩)], [.cell 2 25, .tmp 3], true⟩
noncomputable def cd35 : Ctx Go.Proofs.Try.prog := ⟨dtab, ofL Ed51, dtabOk, Ed51_ok, ddep, dord⟩
abbrev ld35_0 : Lay := ⟨[(2, .ptr 2 0 3), (4, .full 1052)], [.env 0 (.c (.fz (.int .u64))), .env 5 (.c (.int .i64)), .reg 2 (.cells [.int .u8, .nils, .nils]), .reg 1052 (.row 5 .u8)], [(2, .env 2 0), (1052, .env 4 0)]⟩
abbrev od35_0 : List (AExit × Lay) := [(.ret, ⟨[(2, .ptr 2 0 3)], [.env 3 (.c (.int .i64)), .reg 2 (.cells [.int .u8, .nils, .nils])], [(2, .env 2 0)]⟩), (.exit 0, ⟨[(2, .ptr 2 0 3), (4, .full 1052)], [.reg 2 (.cells [.int .u8, .nils, .nils]), .reg 1052 (.row 5 .u8)], [(2, .env 2 0), (1052, .env 4 0)]⟩)]
noncomputable def stepd35_0 : (List Int) × Int × (Int × Unit × Unit) × List Int → Option (((List Int) × Int × (Int × Unit × Unit) × List Int) ⊕ ((Int × (Int × Unit × Unit)) ⊕ ((Int × Unit × Unit) × List Int)))
  | (t0, t5, r2, r1052) =>
    if (decide (t5 < (t0.length : Int))) = true then
      if (0 : Int) ≤ t5 ∧ t5 < (t0.length : Int) then
        if (decide ((t0.getD t5.toNat 0) > 4294967295)) = true then
          some (.inr (.inl (127, (0, (), ()))))
        else
          if (0 : Int) ≤ t5 ∧ t5 < (t0.length : Int) then
            (Fd51 (t0.getD t5.toNat 0)).bind fun y4 =>
              if okBytes (r1052.length + y4.length) 1 then
                some (.inl (t0, (IntKind.i64.wrap (t5 + 1)), (r2.1, (), ()), (r1052 ++ y4)))
              else none
          else none
      else none
    else
      some (.inr (.inr ((r2.1, (), ()), r1052)))

noncomputable def annd35_0 : Ann := .none
noncomputable def Fd35 : (List Int) → Option ((Tree × Int))
  | a0 =>
    if (decide ((a0.length : Int) < 2)) = false then
      if (decide ((a0.length : Int) > 20)) = false then
        if (0 : Int) ≤ (0 : Int) ∧ (0 : Int) < (a0.length : Int) then
          if (decide ((a0.getD 0 0) > 2)) = false then
            if (0 : Int) ≤ (0 : Int) ∧ (0 : Int) < (a0.length : Int) then
              if (decide ((a0.getD 0 0) < 2)) = true then
                if (0 : Int) ≤ (1 : Int) ∧ (1 : Int) < (a0.length : Int) then
                  if (decide ((a0.getD 1 0) > 39)) = false then
                    if (0 : Int) ≤ (1 : Int) ∧ (1 : Int) < (a0.length : Int) then
                      if (0 : Int) ≤ (0 : Int) ∧ (0 : Int) < (a0.length : Int) then
                        let x1 : Int := (IntKind.u64.wrap (4294967295 - (IntKind.u64.wrap (40 * (a0.getD 0 0)))))
                        if (decide ((a0.getD 1 0) > x1)) = true then
                          some ((Tree.node 0 ([] : List Int) ([] : List Tree)), 127)
                        else
                          if (0 : Int) ≤ (0 : Int) ∧ (0 : Int) < (a0.length : Int) then
                            if (0 : Int) ≤ (1 : Int) ∧ (1 : Int) < (a0.length : Int) then
                              let x2 : Int := (IntKind.u64.wrap ((IntKind.u64.wrap (40 * (a0.getD 0 0))) + (a0.getD 1 0)))
                              (Fd51 x2).bind fun y3 =>
                                (loopO stepd35_0 (a0, 2, (0, (), ()), y3)).bind fun
                                  | (.inl (z5, z6)) =>
                                    some ((Tree.node z6.1 ([] : List Int) ([] : List Tree)), z5)
                                  | (.inr (z7, z8)) =>
                                    some ((Tree.node 6 z8 ([] : List Tree)), 0)
                            else none
                          else none
                      else none
                    else none
                  else
                    some ((Tree.node 0 ([] : List Int) ([] : List Tree)), 127)
                else none
              else
                if (0 : Int) ≤ (1 : Int) ∧ (1 : Int) < (a0.length : Int) then
                  if (0 : Int) ≤ (0 : Int) ∧ (0 : Int) < (a0.length : Int) then
                    let x9 : Int := (IntKind.u64.wrap (4294967295 - (IntKind.u64.wrap (40 * (a0.getD 0 0)))))
                    if (decide ((a0.getD 1 0) > x9)) = true then
                      some ((Tree.node 0 ([] : List Int) ([] : List Tree)), 127)
                    else
                      if (0 : Int) ≤ (0 : Int) ∧ (0 : Int) < (a0.length : Int) then
                        if (0 : Int) ≤ (1 : Int) ∧ (1 : Int) < (a0.length : Int) then
                          let x10 : Int := (IntKind.u64.wrap ((IntKind.u64.wrap (40 * (a0.getD 0 0))) + (a0.getD 1 0)))
                          (Fd51 x10).bind fun y11 =>
                            (loopO stepd35_0 (a0, 2, (0, (), ()), y11)).bind fun
                              | (.inl (z12, z13)) =>
                                some ((Tree.node z13.1 ([] : List Int) ([] : List Tree)), z12)
                              | (.inr (z14, z15)) =>
                                some ((Tree.node 6 z15 ([] : List Tree)), 0)
                        else none
                      else none
                  else none
                else none
            else none
          else
            some ((Tree.node 0 ([] : List Int) ([] : List Tree)), 127)
        else none
      else
        some ((Tree.node 0 ([] : List Int) ([] : List Tree)), 127)
    else
      some ((Tree.node 0 ([] : List Int) ([] : List Tree)), 127)

noncomputable def annd35 : Ann := (.seq .none (.seq .none (.seq .none (.seq (.seq .none (.seq (.cut (cutEnt ld35_0 od35_0 (loopO (stepd35_0)))) .none)) .none))))
theorem eqd35_0 : ∀ s : ld35_0.T, exec dtab (ofL Ed51) 74 (Code.at' [1, 1, 1, 0, 1, 0, 0] bodyd35) annd35_0 (fun e st => loopEnd (l := ld35_0) (outs := od35_0) e st) (ld35_0.enc s) = stepd35_0 s := by
  rintro ⟨t0, t5, r2, r1052⟩
  kernel_rfl
theorem okd35_0 : LOk Go.Proofs.Try.prog 74 (cutEnt ld35_0 od35_0 (loopO stepd35_0)) (Code.at' [1, 1, 1, 0, 1, 0] bodyd35) := by
  have e : Code.at' [1, 1, 1, 0, 1, 0] bodyd35 = .loop (Code.at' [1, 1, 1, 0, 1, 0, 0] bodyd35) := by kernel_rfl
  rw [e]
  refine loop_ok cd35 74 rfl rfl (annOk_of_cuts ?_) eqd35_0
  intro x hx
  exact absurd hx (by show x ∉ ([] : List (List Nat × LEnt)); simp)

theorem eqd35 : ∀ x : Sd35.inT, exec dtab (ofL Ed51) 74 bodyd35 annd35 (finL dtab Sd35) (Sd35.inp.enc x) = Fd35 x := by
  intro x
  kernel_rfl
theorem callsd35 : CallsL Go.Proofs.Try.prog 35 Sd35 Fd35 := by
  refine fun_callsL (fn := Go.Proofs.Try.f35) (c := bodyd35) (ann := annd35) cd35 (by kernel_rfl) (by kernel_rfl) (by kernel_rfl) (by kernel_rfl) (by kernel_rfl) (annOk_of_cuts ?_) eqd35
  have hc : Ann.cuts annd35 = [([1, 1, 1, 0, 1, 0], (cutEnt ld35_0 od35_0 (loopO (stepd35_0))))] := by kernel_rfl
  rw [hc]
  intro x hx
  simp only [List.mem_cons, List.not_mem_nil, or_false] at hx
  rcases hx with rfl
  · have e : Code.at' [1, 1, 1, 0, 1, 0] bodyd35 = Code.at' [1, 1, 1, 0, 1, 0] bodyd35 := by kernel_rfl
    rw [e]; exact okd35_0

theorem entd35 : EntOk Go.Proofs.Try.prog 35 (funEntL Sd35 true Fd35) := fun_okL (fn := Go.Proofs.Try.f35) (c := bodyd35) (by kernel_rfl) (by kernel_rfl) (by kernel_rfl) (by kernel_rfl) callsd35
noncomputable def Ed35 : List (Nat × Ent) := (35, (funEntL Sd35 true Fd35)) :: Ed51
theorem Ed35_ok : EntsOk Go.Proofs.Try.prog (ofL Ed35) := .cons entd35 Ed51_ok

/-! ### barbican/barbicanref12.OfOID -/
noncomputable def bodyd35r : Code := (Go.Proofs.Try.f35.body).getD .skip
abbrev Sd35r : FL := ⟨⟨[(0, .full 1000000)], [.reg 1000000 (.row 42 .u64)], [(1000000, .env 0 0)]⟩, 1, [(.ret, ⟨[], [.env 0 (.dat .item), .env 1 (.c (.int .i64)), .reg 1000000 (.row 42 .u64)], []⟩)], [.cell 2 25, .tmp 3], true⟩
noncomputable def cd35r : Ctx Go.Proofs.Try.prog := ⟨dtab, ofL Ed35, dtabOk, Ed35_ok, ddep, dord⟩
abbrev ld35r_0 : Lay := ⟨[(0, .full 1000000), (2, .ptr 2 0 3), (4, .full 1052)], [.env 5 (.c (.int .i64)), .reg 1000000 (.row 42 .u64), .reg 2 (.cells [.int .u8, .nils, .nils]), .reg 1052 (.row 5 .u8)], [(2, .env 2 0), (1052, .env 4 0)]⟩
abbrev od35r_0 : List (AExit × Lay) := [(.ret, ⟨[(2, .ptr 2 0 3)], [.env 3 (.c (.int .i64)), .reg 2 (.cells [.int .u8, .nils, .nils]), .reg 1000000 (.row 42 .u64)], [(2, .env 2 0)]⟩), (.exit 0, ⟨[(2, .ptr 2 0 3), (4, .full 1052)], [.reg 2 (.cells [.int .u8, .nils, .nils]), .reg 1052 (.row 5 .u8), .reg 1000000 (.row 42 .u64)], [(2, .env 2 0), (1052, .env 4 0)]⟩)]
noncomputable def stepd35r_0 : Int × List Int × (Int × Unit × Unit) × List Int → Option ((Int × List Int × (Int × Unit × Unit) × List Int) ⊕ ((Int × (Int × Unit × Unit) × List Int) ⊕ ((Int × Unit × Unit) × List Int × List Int)))
  | (t5, r1000000, r2, r1052) =>
    if (decide (t5 < (r1000000.length : Int))) = true then
      if (0 : Int) ≤ t5 ∧ t5 < (r1000000.length : Int) then
        if (decide ((r1000000.getD t5.toNat 0) > 4294967295)) = true then
          some (.inr (.inl (127, (0, (), ()), r1000000)))
        else
          if (0 : Int) ≤ t5 ∧ t5 < (r1000000.length : Int) then
            (Fd51 (r1000000.getD t5.toNat 0)).bind fun y4 =>
              if okBytes (r1052.length + y4.length) 1 then
                some (.inl ((IntKind.i64.wrap (t5 + 1)), r1000000, (r2.1, (), ()), (r1052 ++ y4)))
              else none
          else none
      else none
    else
      some (.inr (.inr ((r2.1, (), ()), r1052, r1000000)))

noncomputable def annd35r_0 : Ann := .none
noncomputable def Fd35r : List Int → Option ((Tree × Int × List Int))
  | a0 =>
    if (decide ((a0.length : Int) < 2)) = false then
      if (decide ((a0.length : Int) > 20)) = false then
        if (0 : Int) ≤ (0 : Int) ∧ (0 : Int) < (a0.length : Int) then
          if (decide ((a0.getD 0 0) > 2)) = false then
            if (0 : Int) ≤ (0 : Int) ∧ (0 : Int) < (a0.length : Int) then
              if (decide ((a0.getD 0 0) < 2)) = true then
                if (0 : Int) ≤ (1 : Int) ∧ (1 : Int) < (a0.length : Int) then
                  if (decide ((a0.getD 1 0) > 39)) = false then
                    if (0 : Int) ≤ (1 : Int) ∧ (1 : Int) < (a0.length : Int) then
                      if (0 : Int) ≤ (0 : Int) ∧ (0 : Int) < (a0.length : Int) then
                        let x1 : Int := (IntKind.u64.wrap (4294967295 - (IntKind.u64.wrap (40 * (a0.getD 0 0)))))
                        if (decide ((a0.getD 1 0) > x1)) = true then
                          some ((Tree.node 0 ([] : List Int) ([] : List Tree)), 127, a0)
                        else
                          if (0 : Int) ≤ (0 : Int) ∧ (0 : Int) < (a0.length : Int) then
                            if (0 : Int) ≤ (1 : Int) ∧ (1 : Int) < (a0.length : Int) then
                              let x2 : Int := (IntKind.u64.wrap ((IntKind.u64.wrap (40 * (a0.getD 0 0))) + (a0.getD 1 0)))
                              (Fd51 x2).bind fun y3 =>
                                (loopO stepd35r_0 (2, a0, (0, (), ()), y3)).bind fun
                                  | (.inl (z5, z6, z7)) =>
                                    some ((Tree.node z6.1 ([] : List Int) ([] : List Tree)), z5, z7)
                                  | (.inr (z8, z9, z10)) =>
                                    some ((Tree.node 6 z9 ([] : List Tree)), 0, z10)
                            else none
                          else none
                      else none
                    else none
                  else
                    some ((Tree.node 0 ([] : List Int) ([] : List Tree)), 127, a0)
                else none
              else
                if (0 : Int) ≤ (1 : Int) ∧ (1 : Int) < (a0.length : Int) then
                  if (0 : Int) ≤ (0 : Int) ∧ (0 : Int) < (a0.length : Int) then
                    let x11 : Int := (IntKind.u64.wrap (4294967295 - (IntKind.u64.wrap (40 * (a0.getD 0 0)))))
                    if (decide ((a0.getD 1 0) > x11)) = true then
                      some ((Tree.node 0 ([] : List Int) ([] : List Tree)), 127, a0)
                    else
                      if (0 : Int) ≤ (0 : Int) ∧ (0 : Int) < (a0.length : Int) then
                        if (0 : Int) ≤ (1 : Int) ∧ (1 : Int) < (a0.length : Int) then
                          let x12 : Int := (IntKind.u64.wrap ((IntKind.u64.wrap (40 * (a0.getD 0 0))) + (a0.getD 1 0)))
                          (Fd51 x12).bind fun y13 =>
                            (loopO stepd35r_0 (2, a0, (0, (), ()), y13)).bind fun
                              | (.inl (z14, z15, z16)) =>
                                some ((Tree.node z15.1 ([] : List Int) ([] : List Tree)), z14, z16)
                              | (.inr (z17, z18, z19)) =>
                                some ((Tree.node 6 z18 ([] : List Tree)), 0, z19)
                        else none
                      else none
                  else none
                else none
            else none
          else
            some ((Tree.node 0 ([] : List Int) ([] : List Tree)), 127, a0)
        else none
      else
        some ((Tree.node 0 ([] : List Int) ([] : List Tree)), 127, a0)
    else
      some ((Tree.node 0 ([] : List Int) ([] : List Tree)), 127, a0)

noncomputable def annd35r : Ann := (.seq .none (.seq .none (.seq .none (.seq (.seq .none (.seq (.cut (cutEnt ld35r_0 od35r_0 (loopO (stepd35r_0)))) .none)) .none))))
theorem eqd35r_0 : ∀ s : ld35r_0.T, exec dtab (ofL Ed35) 74 (Code.at' [1, 1, 1, 0, 1, 0, 0] bodyd35r) annd35r_0 (fun e st => loopEnd (l := ld35r_0) (outs := od35r_0) e st) (ld35r_0.enc s) = stepd35r_0 s := by
  rintro ⟨t5, r1000000, r2, r1052⟩
  kernel_rfl
theorem okd35r_0 : LOk Go.Proofs.Try.prog 74 (cutEnt ld35r_0 od35r_0 (loopO stepd35r_0)) (Code.at' [1, 1, 1, 0, 1, 0] bodyd35r) := by
  have e : Code.at' [1, 1, 1, 0, 1, 0] bodyd35r = .loop (Code.at' [1, 1, 1, 0, 1, 0, 0] bodyd35r) := by kernel_rfl
  rw [e]
  refine loop_ok cd35r 74 rfl rfl (annOk_of_cuts ?_) eqd35r_0
  intro x hx
  exact absurd hx (by show x ∉ ([] : List (List Nat × LEnt)); simp)

theorem eqd35r : ∀ x : Sd35r.inT, exec dtab (ofL Ed35) 74 bodyd35r annd35r (finL dtab Sd35r) (Sd35r.inp.enc x) = Fd35r x := by
  intro x
  kernel_rfl
theorem callsd35r : CallsL Go.Proofs.Try.prog 35 Sd35r Fd35r := by
  refine fun_callsL (fn := Go.Proofs.Try.f35) (c := bodyd35r) (ann := annd35r) cd35r (by kernel_rfl) (by kernel_rfl) (by kernel_rfl) (by kernel_rfl) (by kernel_rfl) (annOk_of_cuts ?_) eqd35r
  have hc : Ann.cuts annd35r = [([1, 1, 1, 0, 1, 0], (cutEnt ld35r_0 od35r_0 (loopO (stepd35r_0))))] := by kernel_rfl
  rw [hc]
  intro x hx
  simp only [List.mem_cons, List.not_mem_nil, or_false] at hx
  rcases hx with rfl
  · have e : Code.at' [1, 1, 1, 0, 1, 0] bodyd35r = Code.at' [1, 1, 1, 0, 1, 0] bodyd35r := by kernel_rfl
    rw [e]; exact okd35r_0

theorem entd35r : EntOk Go.Proofs.Try.prog 35 (funEntL Sd35r true Fd35r) := fun_okL (fn := Go.Proofs.Try.f35) (c := bodyd35r) (by kernel_rfl) (by kernel_rfl) (by kernel_rfl) (by kernel_rfl) callsd35r
noncomputable def Ed35r : List (Nat × Ent) := (35, (entOr (canIn Sd35r) (funEntL Sd35r true Fd35r) (funEntL Sd35 true Fd35))) :: Ed35
theorem Ed35r_ok : EntsOk Go.Proofs.Try.prog (ofL Ed35r) := .cons (entOr_ok entd35r entd35) Ed35_ok

/-! ### barbican/barbicanref12.OID -/
noncomputable def bodyd33 : Code := (Go.Proofs.Try.f33.body).getD .skip
abbrev Sd33 : FL := ⟨⟨[], [.env 0 (.dat .item)], []⟩, 1, [(.ret, ⟨[(0, .full 3)], [.reg 3 (.row 42 .u64), .env 1 (.c (.int .i64))], [(3, .env 0 0)]⟩)], [.tmp 2, .tmp 3], false⟩
noncomputable def cd33 : Ctx Go.Proofs.Try.prog := ⟨dtab, ofL Ed35r, dtabOk, Ed35r_ok, ddep, dord⟩
abbrev ld33_0 : Lay := ⟨[(1, .ptr 1 0 3), (4, .full 4)], [.env 5 (.c (.int .u64)), .env 6 (.c (.int .i64)), .reg 1 (.cells [.int .u8, .fz (.int .u8), .fz .item]), .reg 4 (.row 42 .u64)], [(1, .env 1 0), (4, .env 4 0)]⟩
abbrev od33_0 : List (AExit × Lay) := [(.ret, ⟨[(2, .full 2)], [.env 3 (.c (.int .i64)), .reg 2 (.row 42 .u64)], [(2, .env 2 0)]⟩), (.exit 0, ⟨[(1, .ptr 1 0 3), (4, .full 4)], [.reg 1 (.cells [.int .u8, .fz (.int .u8), .fz .item]), .reg 4 (.row 42 .u64)], [(1, .env 1 0), (4, .env 4 0)]⟩)]
noncomputable def stepd33_0 : Int × Int × (Int × (List Int) × (List Tree)) × List Int → Option ((Int × Int × (Int × (List Int) × (List Tree)) × List Int) ⊕ ((Int × List Int) ⊕ ((Int × (List Int) × (List Tree)) × List Int)))
  | (t5, t6, r1, r4) =>
    if (decide (t6 < (r1.2.1.length : Int))) = true then
      if (decide (t5 > 4294967295)) = true then
        some (.inr (.inl (127, ([] : List Int))))
      else
        if (0 : Int) ≤ t6 ∧ t6 < (r1.2.1.length : Int) then
          let x1 : Int := (IntKind.u64.wrap ((IntKind.u64.wrap (128 * t5)) + (IntKind.u64.wrap ((r1.2.1.getD t6.toNat 0).tmod 128))))
          if (0 : Int) ≤ t6 ∧ t6 < (r1.2.1.length : Int) then
            if (decide ((r1.2.1.getD t6.toNat 0) ≥ 128)) = true then
              some (.inl (x1, (IntKind.i64.wrap (t6 + 1)), (r1.1, r1.2.1, r1.2.2), r4))
            else
              if ((r4.length : Int) == 0) = true then
                let x2 : Int := (if 2 < (IntKind.u64.wrap (x1.tdiv 40)) then 2 else (IntKind.u64.wrap (x1.tdiv 40)))
                if okBytes (r4.length + ((List.replicate 1 (0 : Int)).set 0 x2).length) 8 then
                  let f3 : List Int := ((List.replicate 1 (0 : Int)).set 0 (IntKind.u64.wrap (x1 - (IntKind.u64.wrap (40 * x2)))))
                  if okBytes ((r4 ++ ((List.replicate 1 (0 : Int)).set 0 x2)).length + f3.length) 8 then
                    some (.inl (0, (IntKind.i64.wrap (t6 + 1)), (r1.1, r1.2.1, r1.2.2), ((r4 ++ ((List.replicate 1 (0 : Int)).set 0 x2)) ++ f3)))
                  else none
                else none
              else
                if okBytes (r4.length + ((List.replicate 1 (0 : Int)).set 0 x1).length) 8 then
                  some (.inl (0, (IntKind.i64.wrap (t6 + 1)), (r1.1, r1.2.1, r1.2.2), (r4 ++ ((List.replicate 1 (0 : Int)).set 0 x1))))
                else none
          else none
        else none
    else
      some (.inr (.inr ((r1.1, r1.2.1, r1.2.2), r4)))

noncomputable def annd33_0 : Ann := .none
noncomputable def Fd33 : Tree → Option ((List Int × Int))
  | a0 =>
    if (a0.tag != 6) = true then
      some (([] : List Int), 123)
    else
      (loopO stepd33_0 (0, 0, (a0.tag, a0.body, a0.kids), ([] : List Int))).bind fun
        | (.inl (z4, z5)) =>
          some (z5, z4)
        | (.inr (z6, z7)) =>
          (Fd35r z7).bind fun (y8, y9, y10) =>
            (Fd12 ((Tree.node y8.tag y8.body y8.kids), (Tree.node z6.1 z6.2.1 z6.2.2))).bind fun y11 =>
              if (y9 != 0) = false then
                if (!y11) = true then
                  some (([] : List Int), 127)
                else
                  some (y10, 0)
              else
                some (([] : List Int), 127)

noncomputable def annd33 : Ann := (.seq .none (.seq .none (.seq .none (.seq .none (.seq (.seq .none (.seq (.cut (cutEnt ld33_0 od33_0 (loopO (stepd33_0)))) .none)) .none)))))
theorem eqd33_0 : ∀ s : ld33_0.T, exec dtab (ofL Ed35r) 72 (Code.at' [1, 1, 1, 1, 0, 1, 0, 0] bodyd33) annd33_0 (fun e st => loopEnd (l := ld33_0) (outs := od33_0) e st) (ld33_0.enc s) = stepd33_0 s := by
  rintro ⟨t5, t6, r1, r4⟩
  kernel_rfl
theorem okd33_0 : LOk Go.Proofs.Try.prog 72 (cutEnt ld33_0 od33_0 (loopO stepd33_0)) (Code.at' [1, 1, 1, 1, 0, 1, 0] bodyd33) := by
  have e : Code.at' [1, 1, 1, 1, 0, 1, 0] bodyd33 = .loop (Code.at' [1, 1, 1, 1, 0, 1, 0, 0] bodyd33) := by kernel_rfl
  rw [e]
  refine loop_ok cd33 72 rfl rfl (annOk_of_cuts ?_) eqd33_0
  intro x hx
  exact absurd hx (by show x ∉ ([] : List (List Nat × LEnt)); simp)

theorem eqd33 : ∀ x : Sd33.inT, exec dtab (ofL Ed35r) 72 bodyd33 annd33 (finL dtab Sd33) (Sd33.inp.enc x) = Fd33 x := by
  intro x
  kernel_rfl
theorem callsd33 : CallsL Go.Proofs.Try.prog 33 Sd33 Fd33 := by
  refine fun_callsL (fn := Go.Proofs.Try.f33) (c := bodyd33) (ann := annd33) cd33 (by kernel_rfl) (by kernel_rfl) (by kernel_rfl) (by kernel_rfl) (by kernel_rfl) (annOk_of_cuts ?_) eqd33
  have hc : Ann.cuts annd33 = [([1, 1, 1, 1, 0, 1, 0], (cutEnt ld33_0 od33_0 (loopO (stepd33_0))))] := by kernel_rfl
  rw [hc]
  intro x hx
  simp only [List.mem_cons, List.not_mem_nil, or_false] at hx
  rcases hx with rfl
  · have e : Code.at' [1, 1, 1, 1, 0, 1, 0] bodyd33 = Code.at' [1, 1, 1, 1, 0, 1, 0] bodyd33 := by kernel_rfl
    rw [e]; exact okd33_0

theorem entd33 : EntOk Go.Proofs.Try.prog 33 (funEntL Sd33 true Fd33) := fun_okL (fn := Go.Proofs.Try.f33) (c := bodyd33) (by kernel_rfl) (by kernel_rfl) (by kernel_rfl) (by kernel_rfl) callsd33
noncomputable def Ed33 : List (Nat × Ent) := (33, (funEntL Sd33 true Fd33)) :: Ed35r
theorem Ed33_ok : EntsOk Go.Proofs.Try.prog (ofL Ed33) := .cons entd33 Ed35r_ok

/-! ### barbican/der.OfOID -/
noncomputable def bodyd34 : Code := (Go.Proofs.Try.f34.body).getD .skip
abbrev Sd34 : FL := ⟨⟨[], [.env 0 (.c (.fz (.int .u64)))], []⟩, 1, [(.ret, ⟨[], [.env 0 (.dat .item), .env 1 (.c (.int .i64))], []⟩)], [.cell 2 25, .tmp 3], true⟩
noncomputable def cd34 : Ctx Go.Proofs.Try.prog := ⟨dtab, ofL Ed33, dtabOk, Ed33_ok, ddep, dord⟩
abbrev ld34_1 : Lay := ⟨[(2, .ptr 2 0 3), (4, .full 72)], [.env 0 (.c (.fz (.int .u64))), .env 6 (.c (.int .u64)), .env 7 (.c (.int .i64)), .env 47 (.c (.fz (.int .u64))), .env 48 (.c (.int .i64)), .env 49 (.c (.int .i64)), .reg 2 (.cells [.int .u8, .nils, .nils]), .reg 72 (.row 5 .u8)], [(2, .env 2 0), (72, .env 4 0)]⟩
abbrev od34_1 : List (AExit × Lay) := [(.exit 2, ⟨[(2, .ptr 2 0 3), (4, .full 72)], [.env 0 (.c (.fz (.int .u64))), .env 7 (.c (.int .i64)), .env 47 (.c (.fz (.int .u64))), .env 48 (.c (.int .i64)), .env 49 (.c (.int .i64)), .reg 2 (.cells [.int .u8, .nils, .nils]), .reg 72 (.row 5 .u8)], [(2, .env 2 0), (72, .env 4 0)]⟩)]
noncomputable def stepd34_1 : (List Int) × Int × Int × (List Int) × Int × Int × (Int × Unit × Unit) × List Int → Option (((List Int) × Int × Int × (List Int) × Int × Int × (Int × Unit × Unit) × List Int) ⊕ (((List Int) × Int × (List Int) × Int × Int × (Int × Unit × Unit) × List Int)))
  | (t0, t6, t7, t47, t48, t49, r2, r72) =>
    if (decide (t6 > 0)) = true then
      let f4 : List Int := ((List.replicate 1 (0 : Int)).set 0 (bitsOr .u8 (IntKind.u8.wrap t6) 128))
      if okBytes (r72.length + f4.length) 1 then
        some (.inl (t0, (shrI .u64 t6 7), t7, t47, t48, t49, (r2.1, (), ()), (r72 ++ f4)))
      else none
    else
      some (.inr (t0, t7, t47, t48, t49, (r2.1, (), ()), r72))

noncomputable def annd34_1 : Ann := .none
abbrev ld34_0 : Lay := ⟨[(2, .ptr 2 0 3), (4, .full 4)], [.env 0 (.c (.fz (.int .u64))), .env 47 (.c (.fz (.int .u64))), .env 48 (.c (.int .i64)), .env 49 (.c (.int .i64)), .reg 2 (.cells [.int .u8, .nils, .nils]), .reg 4 (.row 5 .u8)], [(2, .env 2 0), (4, .env 4 0)]⟩
abbrev od34_0 : List (AExit × Lay) := [(.ret, ⟨[(2, .ptr 2 0 3)], [.env 3 (.c (.int .i64)), .reg 2 (.cells [.int .u8, .nils, .nils])], [(2, .env 2 0)]⟩), (.exit 0, ⟨[(2, .ptr 2 0 3), (4, .full 4)], [.reg 2 (.cells [.int .u8, .nils, .nils]), .reg 4 (.row 5 .u8)], [(2, .env 2 0), (4, .env 4 0)]⟩)]
noncomputable def stepd34_0 : (List Int) × (List Int) × Int × Int × (Int × Unit × Unit) × List Int → Option (((List Int) × (List Int) × Int × Int × (Int × Unit × Unit) × List Int) ⊕ ((Int × (Int × Unit × Unit)) ⊕ ((Int × Unit × Unit) × List Int)))
  | (t0, t47, t48, t49, r2, r4) =>
    if (decide (t49 < t48)) = true then
      if (0 : Int) ≤ t49 ∧ t49 < (t47.length : Int) then
        if (t49 == 0) = true then
          if (0 : Int) ≤ (0 : Int) ∧ (0 : Int) < (t0.length : Int) then
            let x2 : Int := (IntKind.u64.wrap ((t47.getD t49.toNat 0) + (IntKind.u64.wrap (40 * (t0.getD 0 0)))))
            if (decide (x2 > 4294967295)) = true then
              some (.inr (.inl (127, (0, (), ()))))
            else
              let f3 : List Int := ((List.replicate 1 (0 : Int)).set 0 (IntKind.u8.wrap (bitsAnd .u64 x2 127)))
              if okBytes (r4.length + f3.length) 1 then
                (loopO stepd34_1 (t0, (shrI .u64 x2 7), (r4.length : Int), t47, t48, t49, (r2.1, (), ()), (r4 ++ f3))).bind fun (z5, z6, z7, z8, z9, z10, z11) =>
                  if (0 : Int) ≤ z6 ∧ z6 ≤ (z11.length : Int) then
                    (Fd50 (z11, (z6.toNat, (z11.length - z6.toNat)))).bind fun y12 =>
                      some (.inl (z5, z7, z8, (IntKind.i64.wrap (z9 + 1)), (z10.1, (), ()), y12))
                  else none
              else none
          else none
        else
          if (decide ((t47.getD t49.toNat 0) > 4294967295)) = true then
            some (.inr (.inl (127, (0, (), ()))))
          else
            let f13 : List Int := ((List.replicate 1 (0 : Int)).set 0 (IntKind.u8.wrap (bitsAnd .u64 (t47.getD t49.toNat 0) 127)))
            if okBytes (r4.length + f13.length) 1 then
              (loopO stepd34_1 (t0, (shrI .u64 (t47.getD t49.toNat 0) 7), (r4.length : Int), t47, t48, t49, (r2.1, (), ()), (r4 ++ f13))).bind fun (z14, z15, z16, z17, z18, z19, z20) =>
                if (0 : Int) ≤ z15 ∧ z15 ≤ (z20.length : Int) then
                  (Fd50 (z20, (z15.toNat, (z20.length - z15.toNat)))).bind fun y21 =>
                    some (.inl (z14, z16, z17, (IntKind.i64.wrap (z18 + 1)), (z19.1, (), ()), y21))
                else none
            else none
      else none
    else
      some (.inr (.inr ((r2.1, (), ()), r4)))

noncomputable def annd34_0 : Ann := (.seq .none (.seq .none (.seq (.seq (.seq .none (.seq .none (.seq .none (.seq .none (.seq .none (.seq (.seq .none (.seq (.cut (cutEnt ld34_1 od34_1 (loopO (stepd34_1)))) .none)) .none)))))) .none) .none)))
noncomputable def Fd34 : (List Int) → Option ((Tree × Int))
  | a0 =>
    if (decide ((a0.length : Int) < 2)) = false then
      if (decide ((a0.length : Int) > 20)) = false then
        if (0 : Int) ≤ (0 : Int) ∧ (0 : Int) < (a0.length : Int) then
          if (decide ((a0.getD 0 0) > 2)) = false then
            if (0 : Int) ≤ (0 : Int) ∧ (0 : Int) < (a0.length : Int) then
              if (decide ((a0.getD 0 0) < 2)) = true then
                if (0 : Int) ≤ (1 : Int) ∧ (1 : Int) < (a0.length : Int) then
                  if (decide ((a0.getD 1 0) ≥ 40)) = false then
                    if (0 : Int) ≤ (1 : Int) ∧ (1 : Int) < (a0.length : Int) then
                      if (0 : Int) ≤ (0 : Int) ∧ (0 : Int) < (a0.length : Int) then
                        let x1 : Int := (IntKind.u64.wrap (4294967295 - (IntKind.u64.wrap (40 * (a0.getD 0 0)))))
                        if (decide ((a0.getD 1 0) > x1)) = true then
                          some ((Tree.node 0 ([] : List Int) ([] : List Tree)), 127)
                        else
                          if (0 : Int) ≤ (1 : Int) ∧ (1 : Int) ≤ (a0.length : Int) then
                            (loopO stepd34_0 (a0, (a0.drop 1), ((a0.drop 1).length : Int), 0, (0, (), ()), ([] : List Int))).bind fun
                              | (.inl (z22, z23)) =>
                                some ((Tree.node z23.1 ([] : List Int) ([] : List Tree)), z22)
                              | (.inr (z24, z25)) =>
                                some ((Tree.node 6 z25 ([] : List Tree)), 0)
                          else none
                      else none
                    else none
                  else
                    some ((Tree.node 0 ([] : List Int) ([] : List Tree)), 127)
                else none
              else
                if (0 : Int) ≤ (1 : Int) ∧ (1 : Int) < (a0.length : Int) then
                  if (0 : Int) ≤ (0 : Int) ∧ (0 : Int) < (a0.length : Int) then
                    let x26 : Int := (IntKind.u64.wrap (4294967295 - (IntKind.u64.wrap (40 * (a0.getD 0 0)))))
                    if (decide ((a0.getD 1 0) > x26)) = true then
                      some ((Tree.node 0 ([] : List Int) ([] : List Tree)), 127)
                    else
                      if (0 : Int) ≤ (1 : Int) ∧ (1 : Int) ≤ (a0.length : Int) then
                        (loopO stepd34_0 (a0, (a0.drop 1), ((a0.drop 1).length : Int), 0, (0, (), ()), ([] : List Int))).bind fun
                          | (.inl (z27, z28)) =>
                            some ((Tree.node z28.1 ([] : List Int) ([] : List Tree)), z27)
                          | (.inr (z29, z30)) =>
                            some ((Tree.node 6 z30 ([] : List Tree)), 0)
                      else none
                  else none
                else none
            else none
          else
            some ((Tree.node 0 ([] : List Int) ([] : List Tree)), 127)
        else none
      else
        some ((Tree.node 0 ([] : List Int) ([] : List Tree)), 127)
    else
      some ((Tree.node 0 ([] : List Int) ([] : List Tree)), 127)

noncomputable def annd34 : Ann := (.seq .none (.seq .none (.seq .none (.seq (.seq .none (.seq (.cut (cutEnt ld34_0 od34_0 (loopO (stepd34_0)))) .none)) .none))))
theorem eqd34_1 : ∀ s : ld34_1.T, exec dtab (ofL Ed33) 92 (Code.at' [1, 1, 1, 0, 1, 0, 0, 1, 1, 0, 0, 1, 1, 1, 1, 1, 0, 1, 0, 0] bodyd34) annd34_1 (fun e st => loopEnd (l := ld34_1) (outs := od34_1) e st) (ld34_1.enc s) = stepd34_1 s := by
  rintro ⟨t0, t6, t7, t47, t48, t49, r2, r72⟩
  kernel_rfl
theorem okd34_1 : LOk Go.Proofs.Try.prog 92 (cutEnt ld34_1 od34_1 (loopO stepd34_1)) (Code.at' [1, 1, 1, 0, 1, 0, 0, 1, 1, 0, 0, 1, 1, 1, 1, 1, 0, 1, 0] bodyd34) := by
  have e : Code.at' [1, 1, 1, 0, 1, 0, 0, 1, 1, 0, 0, 1, 1, 1, 1, 1, 0, 1, 0] bodyd34 = .loop (Code.at' [1, 1, 1, 0, 1, 0, 0, 1, 1, 0, 0, 1, 1, 1, 1, 1, 0, 1, 0, 0] bodyd34) := by kernel_rfl
  rw [e]
  refine loop_ok cd34 92 rfl rfl (annOk_of_cuts ?_) eqd34_1
  intro x hx
  exact absurd hx (by show x ∉ ([] : List (List Nat × LEnt)); simp)

theorem eqd34_0 : ∀ s : ld34_0.T, exec dtab (ofL Ed33) 92 (Code.at' [1, 1, 1, 0, 1, 0, 0] bodyd34) annd34_0 (fun e st => loopEnd (l := ld34_0) (outs := od34_0) e st) (ld34_0.enc s) = stepd34_0 s := by
  rintro ⟨t0, t47, t48, t49, r2, r4⟩
  kernel_rfl
theorem okd34_0 : LOk Go.Proofs.Try.prog 92 (cutEnt ld34_0 od34_0 (loopO stepd34_0)) (Code.at' [1, 1, 1, 0, 1, 0] bodyd34) := by
  have e : Code.at' [1, 1, 1, 0, 1, 0] bodyd34 = .loop (Code.at' [1, 1, 1, 0, 1, 0, 0] bodyd34) := by kernel_rfl
  rw [e]
  refine loop_ok cd34 92 rfl rfl (annOk_of_cuts ?_) eqd34_0
  have hc : Ann.cuts annd34_0 = [([1, 1, 0, 0, 1, 1, 1, 1, 1, 0, 1, 0], (cutEnt ld34_1 od34_1 (loopO (stepd34_1))))] := by kernel_rfl
  rw [hc]
  intro x hx
  simp only [List.mem_cons, List.not_mem_nil, or_false] at hx
  rcases hx with rfl
  · have e : Code.at' [1, 1, 0, 0, 1, 1, 1, 1, 1, 0, 1, 0] (Code.at' [1, 1, 1, 0, 1, 0, 0] bodyd34) = Code.at' [1, 1, 1, 0, 1, 0, 0, 1, 1, 0, 0, 1, 1, 1, 1, 1, 0, 1, 0] bodyd34 := by kernel_rfl
    rw [e]; exact okd34_1

theorem eqd34 : ∀ x : Sd34.inT, exec dtab (ofL Ed33) 92 bodyd34 annd34 (finL dtab Sd34) (Sd34.inp.enc x) = Fd34 x := by
  intro x
  kernel_rfl
theorem callsd34 : CallsL Go.Proofs.Try.prog 34 Sd34 Fd34 := by
  refine fun_callsL (fn := Go.Proofs.Try.f34) (c := bodyd34) (ann := annd34) cd34 (by kernel_rfl) (by kernel_rfl) (by kernel_rfl) (by kernel_rfl) (by kernel_rfl) (annOk_of_cuts ?_) eqd34
  have hc : Ann.cuts annd34 = [([1, 1, 1, 0, 1, 0], (cutEnt ld34_0 od34_0 (loopO (stepd34_0))))] := by kernel_rfl
  rw [hc]
  intro x hx
  simp only [List.mem_cons, List.not_mem_nil, or_false] at hx
  rcases hx with rfl
  · have e : Code.at' [1, 1, 1, 0, 1, 0] bodyd34 = Code.at' [1, 1, 1, 0, 1, 0] bodyd34 := by kernel_rfl
    rw [e]; exact okd34_0

theorem entd34 : EntOk Go.Proofs.Try.prog 34 (funEntL Sd34 true Fd34) := fun_okL (fn := Go.Proofs.Try.f34) (c := bodyd34) (by kernel_rfl) (by kernel_rfl) (by kernel_rfl) (by kernel_rfl) callsd34
noncomputable def Ed34 : List (Nat × Ent) := (34, (funEntL Sd34 true Fd34)) :: Ed33
theorem Ed34_ok : EntsOk Go.Proofs.Try.prog (ofL Ed34) := .cons entd34 Ed33_ok

/-! ### barbican/barbicanlaw12.sameWords -/
noncomputable def bodyd36 : Code := (Go.Proofs.Try.f36.body).getD .skip
abbrev Sd36 : FL := ⟨⟨[], [.env 0 (.c (.fz (.int .u64))), .env 1 (.c (.fz (.int .u64)))], []⟩, 2, [(.ret, ⟨[], [.env 0 (.c (.bool))], []⟩)], [.tmp 4], false⟩
noncomputable def cd36 : Ctx Go.Proofs.Try.prog := ⟨dtab, ofL Ed34, dtabOk, Ed34_ok, ddep, dord⟩
abbrev ld36_0 : Lay := ⟨[], [.env 0 (.c (.fz (.int .u64))), .env 1 (.c (.fz (.int .u64))), .env 5 (.c (.int .i64))], []⟩
abbrev od36_0 : List (AExit × Lay) := [(.ret, ⟨[], [.env 4 (.c (.bool))], []⟩), (.exit 0, ⟨[], [], []⟩)]
noncomputable def stepd36_0 : (List Int) × (List Int) × Int → Option (((List Int) × (List Int) × Int) ⊕ ((Bool) ⊕ (Unit)))
  | (t0, t1, t5) =>
    if (decide (t5 < (t0.length : Int))) = true then
      if (0 : Int) ≤ t5 ∧ t5 < (t0.length : Int) then
        if (0 : Int) ≤ t5 ∧ t5 < (t1.length : Int) then
          if ((t0.getD t5.toNat 0) != (t1.getD t5.toNat 0)) = true then
            some (.inr (.inl false))
          else
            some (.inl (t0, t1, (IntKind.i64.wrap (t5 + 1))))
        else none
      else none
    else
      some (.inr (.inr ()))

noncomputable def annd36_0 : Ann := .none
noncomputable def Fd36 : (List Int) × (List Int) → Option ((Bool))
  | (a0, a1) =>
    if ((a0.length : Int) != (a1.length : Int)) = true then
      some false
    else
      (loopO stepd36_0 (a0, a1, 0)).bind fun
        | (.inl z1) =>
          some z1
        | (.inr _) =>
          some true

noncomputable def annd36 : Ann := (.seq .none (.seq .none (.seq (.seq .none (.seq (.cut (cutEnt ld36_0 od36_0 (loopO (stepd36_0)))) .none)) .none)))
theorem eqd36_0 : ∀ s : ld36_0.T, exec dtab (ofL Ed34) 26 (Code.at' [1, 1, 0, 1, 0, 0] bodyd36) annd36_0 (fun e st => loopEnd (l := ld36_0) (outs := od36_0) e st) (ld36_0.enc s) = stepd36_0 s := by
  rintro ⟨t0, t1, t5⟩
  kernel_rfl
theorem okd36_0 : LOk Go.Proofs.Try.prog 26 (cutEnt ld36_0 od36_0 (loopO stepd36_0)) (Code.at' [1, 1, 0, 1, 0] bodyd36) := by
  have e : Code.at' [1, 1, 0, 1, 0] bodyd36 = .loop (Code.at' [1, 1, 0, 1, 0, 0] bodyd36) := by kernel_rfl
  rw [e]
  refine loop_ok cd36 26 rfl rfl (annOk_of_cuts ?_) eqd36_0
  intro x hx
  exact absurd hx (by show x ∉ ([] : List (List Nat × LEnt)); simp)

theorem eqd36 : ∀ x : Sd36.inT, exec dtab (ofL Ed34) 26 bodyd36 annd36 (finL dtab Sd36) (Sd36.inp.enc x) = Fd36 x := by
  rintro ⟨a0, a1⟩
  kernel_rfl
theorem callsd36 : CallsL Go.Proofs.Try.prog 36 Sd36 Fd36 := by
  refine fun_callsL (fn := Go.Proofs.Try.f36) (c := bodyd36) (ann := annd36) cd36 (by kernel_rfl) (by kernel_rfl) (by kernel_rfl) (by kernel_rfl) (by kernel_rfl) (annOk_of_cuts ?_) eqd36
  have hc : Ann.cuts annd36 = [([1, 1, 0, 1, 0], (cutEnt ld36_0 od36_0 (loopO (stepd36_0))))] := by kernel_rfl
  rw [hc]
  intro x hx
  simp only [List.mem_cons, List.not_mem_nil, or_false] at hx
  rcases hx with rfl
  · have e : Code.at' [1, 1, 0, 1, 0] bodyd36 = Code.at' [1, 1, 0, 1, 0] bodyd36 := by kernel_rfl
    rw [e]; exact okd36_0

theorem entd36 : EntOk Go.Proofs.Try.prog 36 (funEntL Sd36 true Fd36) := fun_okL (fn := Go.Proofs.Try.f36) (c := bodyd36) (by kernel_rfl) (by kernel_rfl) (by kernel_rfl) (by kernel_rfl) callsd36
noncomputable def Ed36 : List (Nat × Ent) := (36, (funEntL Sd36 true Fd36)) :: Ed34
theorem Ed36_ok : EntsOk Go.Proofs.Try.prog (ofL Ed36) := .cons entd36 Ed34_ok

/-! ### barbican/barbicanlaw12.DerObjects -/
noncomputable def bodyd9 : Code := (Go.Proofs.Try.f9.body).getD .skip
abbrev Sd9 : FL := ⟨⟨[], [.env 0 (.dat .item), .env 1 (.c (.fz (.int .u64)))], []⟩, 2, [(.ret, ⟨[], [.env 0 (.c (.bool))], []⟩)], [.tmp 4], false⟩
noncomputable def cd9 : Ctx Go.Proofs.Try.prog := ⟨dtab, ofL Ed36, dtabOk, Ed36_ok, ddep, dord⟩
noncomputable def Fd9 : Tree × (List Int) → Option ((Bool))
  | (a0, a1) =>
    (Fd16 (Tree.node a0.tag a0.body a0.kids)).bind fun y1 =>
      if y1 = true then
        (Fd15 ()).bind fun y2 =>
          some y2
      else
        (Fd32 (Tree.node a0.tag a0.body a0.kids)).bind fun (y3, y4) =>
          (Fd33 (Tree.node a0.tag a0.body a0.kids)).bind fun (y5, y6) =>
            (Fd34 a1).bind fun (y7, y8) =>
              (Fd35 a1).bind fun (y9, y10) =>
                (Fd36 (y3, y5)).bind fun y11 =>
                  (Fd12 ((Tree.node y7.tag y7.body y7.kids), (Tree.node y9.tag y9.body y9.kids))).bind fun y12 =>
                    (Fd15 ()).bind fun y13 =>
                      if (!y13) = false then
                        if (y4 != y6) = false then
                          if (y8 != y10) = false then
                            if (!y11) = false then
                              if (!y12) = true then
                                some false
                              else
                                if (y8 == 0) = true then
                                  (Fd32 (Tree.node y7.tag y7.body y7.kids)).bind fun (y14, y15) =>
                                    if (y15 != 0) = false then
                                      (Fd36 (y14, a1)).bind fun y16 =>
                                        if (!y16) = true then
                                          some false
                                        else
                                          if (y4 == 0) = true then
                                            (Fd34 y3).bind fun (y17, y18) =>
                                              if (y18 == 0) = true then
                                                (Fd12 ((Tree.node y17.tag y17.body y17.kids), (Tree.node a0.tag a0.body a0.kids))).bind fun y19 =>
                                                  some y19
                                              else
                                                some false
                                          else
                                            some true
                                    else
                                      some false
                                else
                                  if (y4 == 0) = true then
                                    (Fd34 y3).bind fun (y20, y21) =>
                                      if (y21 == 0) = true then
                                        (Fd12 ((Tree.node y20.tag y20.body y20.kids), (Tree.node a0.tag a0.body a0.kids))).bind fun y22 =>
                                          some y22
                                      else
                                        some false
                                  else
                                    some true
                            else
                              some false
                          else
                            some false
                        else
                          some false
                      else
                        some false

noncomputable def annd9 : Ann := .none
theorem eqd9 : ∀ x : Sd9.inT, exec dtab (ofL Ed36) 99 bodyd9 annd9 (finL dtab Sd9) (Sd9.inp.enc x) = Fd9 x := by
  rintro ⟨a0, a1⟩
  kernel_rfl
theorem callsd9 : CallsL Go.Proofs.Try.prog 9 Sd9 Fd9 := by
  refine fun_callsL (fn := Go.Proofs.Try.f9) (c := bodyd9) (ann := annd9) cd9 (by kernel_rfl) (by kernel_rfl) (by kernel_rfl) (by kernel_rfl) (by kernel_rfl) (annOk_of_cuts ?_) eqd9
  intro x hx
  exact absurd hx (by show x ∉ ([] : List (List Nat × LEnt)); simp)

theorem entd9 : EntOk Go.Proofs.Try.prog 9 (funEntL Sd9 true Fd9) := fun_okL (fn := Go.Proofs.Try.f9) (c := bodyd9) (by kernel_rfl) (by kernel_rfl) (by kernel_rfl) (by kernel_rfl) callsd9
noncomputable def Ed9 : List (Nat × Ent) := (9, (funEntL Sd9 true Fd9)) :: Ed36
theorem Ed9_ok : EntsOk Go.Proofs.Try.prog (ofL Ed9) := .cons entd9 Ed36_ok
end Go.Abs
